/-
  All the runs, one by one: the iterator's contract. Conditions: the set is a row of spans of its own, and a loop's body keeps it.
-/
import Derived.Test.YtcifbcdjkofomaaWithin
namespace Go.Proofs.Ytcifbcdjkofomaa
open Go.RowKit Go.Shelf
set_option linter.unusedVariables false
set_option linter.unusedSimpArgs false

attribute [local go_sem] Oper.semAt_some run_min run_max run_field24_0 run_field24_1

structure AllOf (w : World) (br b : Nat) (v : Value) (l : List Sp) : Prop where
  runs : IsRuns w b v l
  cr : w.heap[br]? = some (.cells #[.pointer (some ⟨b, 0, none⟩)] 26 (0, 0))
def allK (br b : Nat) (v : Value) (k : Nat) : Prop := k = br ∨ k = b ∨ some k = v.ownBlock
theorem AllOf.keep {w w' : World} {br b : Nat} {v : Value} {l : List Sp} (h : AllOf w br b v l) (hk : KeepB (allK br b v) w w') : AllOf w' br b v l :=
  ⟨h.runs.keep hk (.inr (.inl rfl)) (fun k e => .inr (.inr e.symm)), hk.at_ (.inl rfl) h.cr⟩
theorem AllOf.below {w w' : World} {br b : Nat} {v : Value} {l : List Sp} (h : AllOf w br b v l) (hb : Below w.heap.size w w') : AllOf w' br b v l :=
  ⟨h.runs.below hb, Below.at' hb h.cr⟩
theorem AllOf.lt {w : World} {br b : Nat} {v : Value} {l : List Sp} (h : AllOf w br b v l) : ∀ k, allK br b v k → k < w.heap.size := by
  rintro k (rfl | rfl | e)
  · exact lt_of_at h.cr
  · exact h.runs.lt
  · exact h.runs.row.lt e.symm

set_option maxRecDepth 100000 in
set_option maxHeartbeats 4000000 in
theorem all1_in (n lp br b : Nat) (v : Value) (l : List Sp) (J Jx : List Sp → World → Prop) (hl : l.length ≤ 4611686018427387904)
    (hY : ∀ m pre x W, J pre W → (pre ++ [x]) <+: l → YieldAt Fence.wide m Try.prog lp (spEnc x) W fun e W' =>
      (e = .returned (.bool true) ∧ J (pre ++ [x]) W' ∧ KeepB (allK br b v) W W') ∨ (e = .returned (.bool false) ∧ Jx (pre ++ [x]) W'))
    (hJ : ∀ pre A B, J pre A → Below A.heap.size A B → J pre B)
    (W : World) (hS : AllOf W br b v l) (h0 : J [] W) :
    CallsIn Fence.wide n Try.prog 61 #[.func (.yield lp) #[] #[], .pointer (some ⟨br, 0, none⟩)] W fun e W' => (∃ v, e = .returned v) ∧
      ((∃ ys, ys = l ∧ J ys W') ∨ (∃ pre, pre <+: l ∧ Jx pre W')) := by
  have c1 : W.cell? ⟨br, 0, none⟩ = some (.pointer (some ⟨b, 0, none⟩)) := by rw [cell_of_at hS.cr]; rfl
  obtain ⟨A, c, rfl, hlc, hcm⟩ := hS.runs.row.form
  have c2 : W.cell? ⟨b, 0, none⟩ = some (.slice A l.length c) := hS.runs.cell
  have HY := Lib.hid hY; clear hY
  have HJ := Lib.hid hJ; clear hJ
  have H0 := Lib.hid h0; clear h0
  have HS := Lib.hid hS; clear hS
  refine callsIn_of_wp Try.func61 rfl trivial ?_ rfl
  simp only [Try.ntmps61, List.size_toArray, List.length_cons, List.length_nil, Nat.reduceAdd, Nat.reduceSub, Array.replicate_succ, Array.replicate_zero, List.push_toArray, List.append_toArray, List.nil_append, List.cons_append]
  gi_wp2_with fail
  gi_loopw [12] (fun i wr => ∃ (pre : List Sp) (m : Nat), i = .int .i64 m ∧ m ≤ l.length ∧ Hid (AllOf wr br b (.slice A l.length c) l) ∧ Hid (J pre wr) ∧ Hid (l = pre ++ l.drop m))
    (fun i _ => l.length - (intOf i).toNat)
  case atStart => exact ⟨[], 0, rfl, Nat.zero_le _, HS, H0, rfl⟩
  case round =>
    obtain ⟨pre, m, rfl, hm, HSr, HJr, HE⟩ := hrel
    clear c1 c2
    by_cases hlt : m < l.length
    · have hrd := HSr.out.runs.row.reads
      rcases hrd with hnil | ⟨g, o, rfl, hc⟩
      · rw [hnil] at hlt; simp at hlt
      · have d5 := (hc m hlt).1
        have d6 := (hc m hlt).2
        rw [← atS_get l m hlt] at d5 d6; rw [← Nat.add_assoc] at d6
        clear hc
        have hlt' : (m : Int) < l.length := by omega
        have hdr : l.drop m = atS l m :: l.drop (m + 1) := by rw [List.drop_eq_getElem_cons hlt, atS_get l m hlt]
        have HD := Lib.hid hdr; clear hdr
        have hlen : (pre ++ [atS l m]) <+: l := ⟨l.drop (m + 1), by have := HE.out; rw [HD.out] at this; rw [List.append_assoc]; exact this.symm⟩
        gi_wp2_with fail
        have hB2 : Below wr.heap.size wr (wr.alloc (.cells #[.int .i64 (atS l m).1, .int .i64 (atS l m).2] 24)) := Below.one _ _
        obtain ⟨fn, tmps, assign, body, hy, hR⟩ := HY.out (n - 1) pre (atS l m) _ (HJ.out _ _ _ HJr.out hB2) hlen
        have hR2 := hR.mono (R' := YieldPost (pre ++ [atS l m]) J Jx (KeepB (allK br b (.slice (some ⟨g, o, none⟩) l.length c))) _) (fun e w' h => by
          rcases h with ⟨h1, h2⟩ | ⟨h1, h2⟩
          · exact ⟨true, h1, .inl ⟨rfl, h2⟩⟩
          · exact ⟨false, h1, .inr ⟨rfl, h2⟩⟩)
        have HB2 := Lib.hid hB2; clear hB2 hR
        dsimp only [spEnc] at hy
        rw [hy]
        gi_wp2_with fail
        refine ⟨(fun h => by cases h), ?_⟩
        refine hR2.mono ?_
        clear hR2
        rintro e w3 ⟨r, rfl, hw3⟩
        cases r
        · have hx : Jx (pre ++ [atS l m]) w3 := by
            rcases hw3.out with ⟨h, _⟩ | ⟨_, h⟩
            · cases h
            · exact h
          have HX := Lib.hid hx
          clear hx hw3
          gi_wp2
          refine bodyPost_ret (results_none rfl _ _ _) rfl ?_
          exact ⟨⟨_, rfl⟩, .inr ⟨_, ⟨l.drop (m + 1), by have := HE.out; rw [HD.out] at this; rw [List.append_assoc]; exact this.symm⟩, HX.out⟩⟩
        · obtain ⟨hj3, hk3⟩ := show J (pre ++ [atS l m]) w3 ∧ KeepB (allK br b (.slice (some ⟨g, o, none⟩) l.length c)) _ w3 from by
            rcases hw3.out with ⟨_, h⟩ | ⟨h, _⟩
            · exact h
            · cases h
          have HR := Lib.hid (And.intro (show AllOf w3 br b (.slice (some ⟨g, o, none⟩) l.length c) l from (HSr.out.below HB2.out).keep hk3) hj3)
          clear hj3 hk3 hw3
          gi_wp2
          go_roundw
          case rel => exact ⟨pre ++ [atS l m], m + 1, by go_num, by omega, HR.out.1, HR.out.2, show _ = _ by have := HE.out; rw [HD.out] at this; rw [List.append_assoc]; exact this⟩
          case measure => simp [intOf]; omega
    · have hlt' : decide ((m : Int) < l.length) = false := decide_eq_false (by omega)
      have hD : l.drop m = [] := List.drop_of_length_le (by omega)
      have HD := Lib.hid hD; clear hD
      gi_wp2_with fail
      go_end0
      exact ⟨⟨_, rfl⟩, .inl ⟨pre, by have := HE.out; rw [HD.out, List.append_nil] at this; exact this.symm, HJr.out⟩⟩
theorem all1_stops (n br b : Nat) (v : Value) (l : List Sp) (hl : l.length ≤ 4611686018427387904) (w : World) (hS : AllOf w br b v l) :
    SeqStopsK Fence.wide n Try.prog 61 #[.pointer (some ⟨br, 0, none⟩)] spEnc (KeepB (allK br b v)) (fun ys => ys = l) (fun pre => pre <+: l) l.length w :=
  fun lp J Jx W hW hJ hJx hY h0 =>
    all1_in n lp br b v l J Jx hl (fun m pre x W1 h1 h2 => anyDepth m (hY pre x W1 h1 (by have := h2.length_le; rw [List.length_append, List.length_singleton] at this; omega))) (fun pre A B hA hb => hJ pre A B none hA (grown_none hb) (fun r e => by cases e)) W (hS.below hW) h0

set_option maxRecDepth 100000 in
theorem allNil_stops (n br : Nat) (w : World) (hr : w.heap[br]? = some (.cells #[.pointer none] 26 (0, 0))) :
    SeqStopsK Fence.wide n Try.prog 61 #[.pointer (some ⟨br, 0, none⟩)] spEnc (KeepB (fun k => k = br)) (fun ys => ys = []) (fun pre => pre <+: []) 0 w :=
  fun lp J Jx W hW hJ hJx hY h0 => by
    have hcr := Below.at' hW hr
    have c1 : W.cell? ⟨br, 0, none⟩ = some (.pointer none) := by rw [cell_of_at hcr]; rfl
    have H0 := Lib.hid h0; clear h0 hJ hJx hY
    clear hr hcr hW
    show CallsIn Fence.wide n Try.prog 61 #[.func (.yield lp) #[] #[], .pointer (some ⟨br, 0, none⟩)] W _
    refine callsIn_of_wp Try.func61 rfl trivial ?_ rfl
    simp only [Try.ntmps61, List.size_toArray, List.length_cons, List.length_nil, Nat.reduceAdd, Nat.reduceSub, Array.replicate_succ, Array.replicate_zero, List.push_toArray, List.append_toArray, List.nil_append, List.cons_append]
    gi_wp2_with fail
    refine bodyPost_ret (results_none rfl _ _ _) rfl ?_
    exact ⟨⟨_, rfl⟩, .inl ⟨[], rfl, H0.out⟩⟩

theorem all_any (p : Option Addr) (w : World) :
    Calls Try.prog 19 #[.pointer p] w fun e w' => e = .returned (.func (.func 61) #[] #[.pointer (some ⟨w.heap.size, 0, none⟩)]) ∧ w' = w.alloc (.cells #[.pointer p] 26) := by
  go_enter Try.func19, Try.ntmps19
  go_wp2
  go_ret
  exact ⟨rfl, rfl⟩
theorem gaps_any (p : Option Addr) (s : Sp) (w : World) :
    Calls Try.prog 16 #[.pointer p, .agg #[.int .i64 s.1, .int .i64 s.2]] w fun e w' => e = .returned (.func (.func 58) #[] #[.pointer (some ⟨w.heap.size + 1, 0, none⟩), .pointer (some ⟨w.heap.size, 0, none⟩)]) ∧
      w' = (w.alloc (.cells #[.pointer p] 26)).alloc (.cells #[.int .i64 s.1, .int .i64 s.2] 24) := by
  go_enter Try.func16, Try.ntmps16
  go_wp2
  go_ret
  exact ⟨rfl, rfl⟩
theorem new_any (w : World) : Calls Try.prog 14 #[] w fun e w' => e = .returned (.pointer (some ⟨w.heap.size, 0, none⟩)) ∧ w' = w.alloc (.cells #[.slice none 0 0] 92) := by
  go_enter Try.func14, Try.ntmps14
  go_wp2
  go_ret
  exact ⟨rfl, rfl⟩
theorem new_runs (w : World) : IsRuns (w.alloc (.cells #[.slice none 0 0] 92)) w.heap.size (.slice none 0 0) [] := ⟨World.alloc_heap_new w _, SpRow.nil _⟩
end Go.Proofs.Ytcifbcdjkofomaa
