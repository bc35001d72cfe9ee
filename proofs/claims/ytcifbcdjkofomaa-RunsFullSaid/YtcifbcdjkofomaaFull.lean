/-
  RunsFull: the plain lists, and the walk. Conditions: the step is a byte.
-/
import Derived.Test.YtcifbcdjkofomaaMany
namespace Go.Proofs.Ytcifbcdjkofomaa
open Go.RowKit Go.Shelf
set_option linter.unusedVariables false
set_option linter.unusedSimpArgs false


theorem WF.snoc {l : List Sp} {x : Sp} (h : WF l) (hx : Okay x) (hlt : ∀ y ∈ l, y.2 < x.1) : WF (l ++ [x]) :=
  ⟨fun y hy => by
    rcases List.mem_append.1 hy with hy | hy
    · exact h.may y hy
    · rw [List.mem_singleton.1 hy]; exact hx, List.pairwise_append.2 ⟨h.apart, List.pairwise_singleton _ _, fun y hy z hz => by rw [List.mem_singleton.1 hz]; exact hlt y hy⟩⟩
def fx (wv q : Int) (i : Nat) : Sp := (wv * i, wv * i + 2 + q)
def FL (wv q : Int) (k : Nat) : List Sp := (List.range k).map (fx wv q)
theorem FL_succ (wv q : Int) (k : Nat) : FL wv q (k + 1) = FL wv q k ++ [fx wv q k] := by simp [FL, List.range_succ]
theorem FL_len (wv q : Int) (k : Nat) : (FL wv q k).length = k := by simp [FL]
theorem fx_bd (wv : Int) (h1 : 3 ≤ wv) (h2 : wv ≤ 11) (k : Nat) (hk : k ≤ 4096) : 0 ≤ wv * k ∧ wv * k ≤ 45056 := by
  constructor
  · exact Int.mul_nonneg (by omega) (by omega)
  · have : wv * (k : Int) ≤ 11 * (k : Int) := Int.mul_le_mul_of_nonneg_right h2 (by omega)
    omega
theorem fx_lt (wv q : Int) (h1 : 3 ≤ wv) (hq : q ≤ wv - 3) (i k : Nat) (h : i < k) : wv * i + 2 + q < wv * k := by
  have : wv * ((i : Int) + 1) ≤ wv * (k : Int) := Int.mul_le_mul_of_nonneg_left (by omega) (by omega)
  rw [Int.mul_add, Int.mul_one] at this
  omega
theorem FL_lt (wv q : Int) (h1 : 3 ≤ wv) (hq : q ≤ wv - 3) (k : Nat) : ∀ y ∈ FL wv q k, y.2 < wv * k := by
  intro y hy
  obtain ⟨i, hi, rfl⟩ := List.mem_map.1 hy
  exact fx_lt wv q h1 hq i k (List.mem_range.1 hi)
theorem fx_ok (wv q : Int) (h1 : 3 ≤ wv) (h2 : wv ≤ 11) (hq0 : 0 ≤ q) (hq : q ≤ wv - 3) (k : Nat) (hk : k ≤ 4096) : Okay (fx wv q k) := by
  have := fx_bd wv h1 h2 k hk
  unfold Okay fx; simp only; omega
theorem FL_wf (wv q : Int) (h1 : 3 ≤ wv) (h2 : wv ≤ 11) (hq0 : 0 ≤ q) (hq : q ≤ wv - 3) : ∀ k : Nat, k ≤ 4096 → WF (FL wv q k)
  | 0, _ => WF.nil
  | k + 1, hk => by
    rw [FL_succ]
    exact (FL_wf wv q h1 h2 hq0 hq k (by omega)).snoc (fx_ok wv q h1 h2 hq0 hq k (by omega)) (FL_lt wv q h1 hq k)
theorem FL_add (wv q : Int) (h1 : 3 ≤ wv) (h2 : wv ≤ 11) (hq0 : 0 ≤ q) (hq : q ≤ wv - 3) (k : Nat) (hk : k < 4096) : addS (FL wv q k) (fx wv q k) = FL wv q (k + 1) ∧ addN (FL wv q k) (fx wv q k) = 2 + q ∧ errM (fx wv q k) = 0 := by
  have h := FL_wf wv q h1 h2 hq0 hq (k + 1) (by omega)
  rw [FL_succ] at h
  obtain ⟨ho, e1, e2, e3⟩ := snoc_add h
  refine ⟨by rw [e1, FL_succ], ?_, e3⟩
  rw [e2, lenOf_may ho]; unfold fx; simp only; omega
theorem FL_full (wv q : Int) (h1 : 3 ≤ wv) (h2 : wv ≤ 11) (hq0 : 0 ≤ q) (hq : q ≤ wv - 3) : Okay (wv * 4096, wv * 4096 + 1) ∧ 4096 < (addL (FL wv q 4096) (wv * 4096, wv * 4096 + 1)).length := by
  have hb := fx_bd wv h1 h2 4096 (Nat.le_refl _)
  have hb' : 0 ≤ wv * 4096 ∧ wv * 4096 ≤ 45056 := hb
  have hok : Okay (wv * 4096, wv * 4096 + 1) := by unfold Okay; simp only; omega
  have h := (FL_wf wv q h1 h2 hq0 hq 4096 (Nat.le_refl _)).snoc hok (FL_lt wv q h1 hq 4096)
  obtain ⟨_, e1, _⟩ := snoc_add h
  unfold addS at e1
  rw [if_pos hok] at e1
  rw [e1, List.length_append, FL_len]
  exact ⟨hok, by simp⟩
def bx (i : Nat) : Sp := (10 * ((i : Int) + 1), 10 * ((i : Int) + 1) + 1)
def BL (k : Nat) : List Sp := (0, 5) :: (List.range k).map bx
theorem BL_succ (k : Nat) : BL (k + 1) = BL k ++ [bx k] := by simp [BL, List.range_succ]
theorem BL_len (k : Nat) : (BL k).length = k + 1 := by simp [BL]
theorem bx_ok (k : Nat) (hk : k ≤ 4096) : Okay (bx k) := by unfold Okay bx; simp only; omega
theorem BL_lt (k : Nat) : ∀ y ∈ BL k, y.2 < 10 * ((k : Int) + 1) := by
  intro y hy
  rcases List.mem_cons.1 hy with rfl | hy
  · simp only; omega
  · obtain ⟨i, hi, rfl⟩ := List.mem_map.1 hy
    have := List.mem_range.1 hi
    unfold bx; simp only; omega
theorem BL_wf : ∀ k : Nat, k ≤ 4096 → WF (BL k)
  | 0, _ => WF.one (by unfold Okay; simp)
  | k + 1, hk => by
    rw [BL_succ]
    exact (BL_wf k (by omega)).snoc (bx_ok k (by omega)) (BL_lt k)
theorem BL_add (k : Nat) (hk : k < 4096) : addS (BL k) (bx k) = BL (k + 1) := by
  have h := BL_wf (k + 1) (by omega)
  rw [BL_succ] at h
  rw [(snoc_add h).2.1, BL_succ]
theorem BL_zero : addS [] (0, 5) = BL 0 := (snoc_add (pre := []) (x := (0, 5)) (WF.one (by unfold Okay; simp))).2.1
theorem BL_sum : ∀ k : Nat, k ≤ 4096 → sumLen (BL k) = 5 + k
  | 0, _ => by decide
  | k + 1, hk => by
    rw [BL_succ, sumLen_append, sumLen_one, BL_sum k (by omega), lenOf_may (bx_ok k (by omega))]
    unfold bx; simp only; omega
theorem BL_left : 4096 < (leftL (BL 4095) (2, 3)).length := by
  have hs : Okay ((2 : Int), (3 : Int)) := by unfold Okay; simp
  have h0 : Okay ((0 : Int), (5 : Int)) := by unfold Okay; simp
  have hw := BL_wf 4095 (by omega)
  have e : leftL (BL 4095) (2, 3) = piecesS (2, 3) (0, 5) ++ leftL ((List.range 4095).map bx) (2, 3) := rfl
  rw [e, leftL_far hs hw.tail (fun x hx => by
    obtain ⟨i, hi, rfl⟩ := List.mem_map.1 hx
    right; unfold bx; simp only; omega), piecesS_eq hs h0]
  simp
theorem BL_has : (runAt (BL 4095) 2).isSome = true := (runAt_in (BL_wf 4095 (by omega)) 2).2 ⟨(0, 5), List.mem_cons_self, by unfold inS; simp⟩
theorem BL_bytes : sumW (BL 4095) = 4100 := by rw [sumW_eq _ (by rw [BL_sum _ (by omega)]; omega), BL_sum _ (by omega)]; rfl

set_option maxRecDepth 100000 in
set_option maxHeartbeats 8000000 in
theorem runsFull_walk (st : Int) (h0 : 0 ≤ st) (h255 : st ≤ 255) (w : World) :
    Calls Try.prog 5 #[.int .u8 st] w fun e w' => e = .returned (.bool true) ∧ Below w.heap.size w w' := by
  go_enter Try.func5, Try.ntmps5
  go_wp2_with fail
  go_at_call 13
  refine (known_any _).mono ?_
  rintro e w1 ⟨rfl, hb⟩
  have H1 := Lib.hid hb
  clear hb
  go_wp2_with fail
  go_at_call 14
  refine (new_any _).mono ?_
  rintro e W0 ⟨rfl, hw2⟩
  have hS0 : Hid (OneS W0 W0 w1.heap.size []) := by
    refine ⟨none, ?_, by simp, Chg.refl _ _⟩
    rw [hw2]; exact SetAt.new w1
  have hz0 : W0.heap.size = w1.heap.size + 1 := by rw [hw2]; simp
  have hBw : Below w1.heap.size w1 W0 := by rw [hw2]; exact Below.one _ _
  have HB0 : Hid (Below w.heap.size w W0) := Below.then_ H1.out hBw
  have HZ : Hid (W0.heap.size = w1.heap.size + 1 ∧ w.heap.size ≤ w1.heap.size) := ⟨hz0, H1.out.size⟩
  obtain ⟨b, hb⟩ : ∃ b, b = w1.heap.size := ⟨_, rfl⟩
  rw [← hb] at hS0 HZ ⊢
  clear hw2 hBw hb H1 hz0
  go_wp2_with fail
  obtain ⟨wv, hwv⟩ : ∃ wv, wv = 3 + st % 9 := ⟨_, rfl⟩
  rw [← hwv]
  have g1 : 3 ≤ wv := by omega
  have g2 : wv ≤ 11 := by omega
  clear hwv
  obtain ⟨q, hq⟩ : ∃ q, q = st % 3 % (wv - 2) := ⟨_, rfl⟩
  have q0 : 0 ≤ q := by rw [hq]; exact Int.emod_nonneg _ (by omega)
  have q1 : q ≤ wv - 3 := by
    have : st % 3 % (wv - 2) < wv - 2 := Int.emod_lt_of_pos _ (by omega)
    rw [hq]; omega
  have HQ := Lib.hid hq; clear hq
  go_loopw [5] (fun i wr => ∃ k : Nat, i = .int .i64 k ∧ k ≤ 4096 ∧ Hid (OneS W0 wr b (FL wv q k))) (fun i _ => 4096 - (intOf i).toNat)
  case atStart => exact ⟨0, rfl, Nat.zero_le _, hS0⟩
  case round =>
    obtain ⟨k, rfl, hk, HT⟩ := hrel
    by_cases hlt : k < 4096
    · have hp := fx_bd wv g1 g2 k hk
      have hlt' : (k : Int) < 4096 := by omega
      have r1 : IntKind.i64.wrap (wv * (k : Int)) = wv * (k : Int) := by rw [IntKind.wrap_i64]; omega
      have r2 : IntKind.i64.wrap (wv * (k : Int) + 2) = wv * (k : Int) + 2 := by rw [IntKind.wrap_i64]; omega
      have r3 : IntKind.i64.wrap (wv * (k : Int) + 2 + st % 3 % (wv - 2)) = wv * (k : Int) + 2 + st % 3 % (wv - 2) := by rw [IntKind.wrap_i64, ← HQ.out]; omega
      have r4 : 0 < wv - 2 := by omega
      have r5 : ¬ wv - 2 = 0 := by omega
      have HA := Lib.hid (FL_add wv q g1 g2 q0 q1 k hlt)
      have HR := Lib.hid (And.intro hp (And.intro r1 (And.intro r2 r3)))
      have HKy : Hid (Calls Try.prog 15 #[.pointer (some ⟨b, 0, none⟩), .agg #[.int .i64 (wv * (k : Int)), .int .i64 (wv * (k : Int) + 2 + q)]] wr fun e W' => e = .returned (.tuple #[.int .i64 (2 + q), .int .i64 0]) ∧ OneS W0 W' b (FL wv q (k + 1))) := by
        have h1 := add_one HT.out (FL_wf wv q g1 g2 q0 q1 k (by omega)) (by rw [FL_len]; omega) (fx wv q k)
        rw [HA.out.1, HA.out.2.1, HA.out.2.2] at h1
        exact h1
      go_wp2_with fail
      rw [← HQ.out]
      refine HKy.out.mono ?_
      rintro e w4 ⟨rfl, hT4⟩
      have HT4 := Lib.hid hT4
      have hn2 : ¬ 2 + q < 2 := by omega
      clear hT4 r1 r2 r3 HKy
      go_wp2_with fail
      go_roundw
      case rel => exact ⟨k + 1, by go_num, by omega, HT4⟩
      case measure => simp [intOf]; omega
    · obtain rfl : k = 4096 := by omega
      have hBwr : Hid (Below w.heap.size w wr) := by
        obtain ⟨r, _, _, h3⟩ := HT.out
        exact HB0.out.trans (h3.belowAt HB0.out.size (fun j hj h => by have := HZ.out; omega))
      obtain ⟨v, hv⟩ := HT.out.runs
      have hfull := FL_full wv q g1 g2 q0 q1
      have hfw := FL_wf wv q g1 g2 q0 q1 4096 (Nat.le_refl _)
      have HKy : Hid (Calls Try.prog 15 #[.pointer (some ⟨b, 0, none⟩), .agg #[.int .i64 (wv * 4096), .int .i64 (wv * 4096 + 1)]] wr fun e W' => e = .returned (.tuple #[.int .i64 0, .int .i64 4]) ∧ Below wr.heap.size wr W') := by
        refine (add_any hv hfw (by rw [FL_len]; exact Nat.le_refl _) (wv * 4096, wv * 4096 + 1) hfull.1 (may_ok hfull.1)).mono ?_
        intro e W' h
        unfold AddPost at h
        rw [if_neg (by have := hfull.2; omega)] at h
        exact h
      have HV := Lib.hid hv
      have r1 : IntKind.i64.wrap (wv * 4096) = wv * 4096 := by rw [IntKind.wrap_i64]; omega
      have r2 : IntKind.i64.wrap (wv * 4096 + 1) = wv * 4096 + 1 := by rw [IntKind.wrap_i64]; omega
      clear hv hfull hfw hlt
      go_wp2_with fail
      go_at_call 15
      refine HKy.out.mono ?_
      rintro e w3 ⟨rfl, hb3⟩
      have hv3 := HV.out.below hb3
      have hl3 := runsLen_any hv3
      rw [FL_len] at hl3
      have HL3 := Lib.hid hl3
      have HB3 : Hid (Below w.heap.size w w3) := Below.then_ hBwr.out hb3
      clear hb3 hv3 hl3 r1 r2 HKy HV
      go_wp2_with fail
      go_at_call 22
      refine HL3.out.mono ?_
      rintro e w4 ⟨rfl, rfl⟩
      go_wp2_with fail
      go_at_call 14
      refine (new_any _).mono ?_
      rintro e W1 ⟨rfl, hw2⟩
      have hS1 : Hid (OneS W1 W1 w4.heap.size []) := by
        refine ⟨none, ?_, by simp, Chg.refl _ _⟩
        rw [hw2]; exact SetAt.new w4
      have hBw : Below w4.heap.size w4 W1 := by rw [hw2]; exact Below.one _ _
      have HB1 : Hid (Below w.heap.size w W1) := Below.then_ HB3.out hBw
      have HZ1 : Hid (W1.heap.size = w4.heap.size + 1 ∧ w.heap.size ≤ w4.heap.size) := ⟨by rw [hw2]; simp, HB3.out.size⟩
      obtain ⟨c, hc⟩ : ∃ c, c = w4.heap.size := ⟨_, rfl⟩
      rw [← hc] at hS1 HZ1 ⊢
      clear hw2 hBw hc
      have HK0 : Hid (Calls Try.prog 15 #[.pointer (some ⟨c, 0, none⟩), .agg #[.int .i64 0, .int .i64 5]] W1 fun e W' => e = .returned (.tuple #[.int .i64 (addN [] (0, 5)), .int .i64 (errM (0, 5))]) ∧ OneS W1 W' c (BL 0)) := by
        have h1 := add_one hS1.out WF.nil (by simp) (0, 5)
        rw [BL_zero] at h1
        exact h1
      go_wp2_with fail
      go_at_call 15
      refine HK0.out.mono ?_
      rintro e w5 ⟨rfl, hT5⟩
      have HT5 := Lib.hid hT5
      clear hT5 HK0 hS1
      go_wp2_with fail
      go_loopw [11] (fun i wr => ∃ k : Nat, i = .int .i64 ((k : Int) + 1) ∧ k ≤ 4095 ∧ Hid (OneS W1 wr c (BL k))) (fun i _ => 4096 - (intOf i).toNat)
      case atStart => exact ⟨0, rfl, Nat.zero_le _, HT5⟩
      case round =>
        obtain ⟨k, rfl, hk, HT2⟩ := hrel
        by_cases hlt : k < 4095
        · have hlt' : (k : Int) + 1 < 4096 := by omega
          have HKy : Hid (Calls Try.prog 15 #[.pointer (some ⟨c, 0, none⟩), .agg #[.int .i64 (10 * ((k : Int) + 1)), .int .i64 (10 * ((k : Int) + 1) + 1)]] wr fun e W' => e = .returned (.tuple #[.int .i64 (addN (BL k) (bx k)), .int .i64 (errM (bx k))]) ∧ OneS W1 W' c (BL (k + 1))) := by
            have h1 := add_one HT2.out (BL_wf k (by omega)) (by rw [BL_len]; omega) (bx k)
            rw [BL_add k (by omega)] at h1
            exact h1
          go_wp2_with fail
          refine HKy.out.mono ?_
          rintro e w6 ⟨rfl, hT6⟩
          have HT6 := Lib.hid hT6
          clear hT6 HKy
          go_wp2_with fail
          go_roundw
          case rel => exact ⟨k + 1, by go_num, by omega, HT6⟩
          case measure => simp [intOf]; omega
        · obtain rfl : k = 4095 := by omega
          have hB6 : Hid (Below w.heap.size w wr) := by
            obtain ⟨r, _, _, h3⟩ := HT2.out
            exact HB1.out.trans (h3.belowAt HB1.out.size (fun j hj h => by have := HZ1.out; omega))
          obtain ⟨v2, hv2⟩ := HT2.out.runs
          have hbw := BL_wf 4095 (by omega)
          have HKr : Hid (Calls Try.prog 24 #[.pointer (some ⟨c, 0, none⟩), .agg #[.int .i64 2, .int .i64 3]] wr fun e W' => e = .returned (.tuple #[.int .i64 0, .int .i64 4]) ∧ Below wr.heap.size wr W') := by
            have ho : Okay ((2 : Int), (3 : Int)) := by unfold Okay; simp
            refine (remove_any hv2 hbw (by rw [BL_len]; exact Nat.le_refl _) (2, 3) ho (may_ok ho)).mono ?_
            intro e W' h
            unfold RemPost at h
            rw [if_neg (by have := BL_left; omega)] at h
            exact h
          have HV2 := Lib.hid (And.intro hv2 hbw)
          clear hv2 hbw hlt
          go_wp2_with fail
          go_at_call 24
          refine HKr.out.mono ?_
          rintro e w7 ⟨rfl, hb7⟩
          have hv7 := HV2.out.1.below hb7
          have hh := has_any hv7 HV2.out.2 (by rw [BL_len]; omega) 2
          rw [BL_has] at hh
          have HH := Lib.hid hh
          have HV7 := Lib.hid hv7
          have HB7 : Hid (Below w.heap.size w w7) := Below.then_ hB6.out hb7
          clear hb7 hv7 hh HKr
          go_wp2_with fail
          go_at_call 23
          refine HH.out.mono ?_
          rintro e w8 ⟨rfl, hb8⟩
          have hby := bytes_any (HV7.out.below hb8) (by rw [BL_len]; omega)
          rw [BL_bytes] at hby
          have HBy := Lib.hid hby
          have HB8 : Hid (Below w.heap.size w w8) := Below.then_ HB7.out hb8
          clear hb8 hby HH
          go_wp2_with fail
          go_at_call 21
          refine HBy.out.mono ?_
          rintro e w9 ⟨rfl, hb9⟩
          have HB9 : Hid (Below w.heap.size w w9) := Below.then_ HB8.out hb9
          clear hb9 HBy
          go_wp2_with fail
          go_at_call 13
          refine (known_any _).mono ?_
          rintro e w10 ⟨rfl, hb10⟩
          have HB10 : Hid (Below w.heap.size w w10) := Below.then_ HB9.out hb10
          clear hb10
          go_wp2_with fail
          go_ret
          exact ⟨rfl, HB10.out⟩
end Go.Proofs.Ytcifbcdjkofomaa
