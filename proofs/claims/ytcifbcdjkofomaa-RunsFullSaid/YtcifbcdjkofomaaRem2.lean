/-
  (*runs.Runs).Remove: the walk. Conditions: the set's row rises and does not touch.
-/
import Derived.Test.YtcifbcdjkofomaaRem
namespace Go.Proofs.Ytcifbcdjkofomaa
open Go.RowKit Go.Shelf
set_option linter.unusedVariables false
set_option linter.unusedSimpArgs false


/-- What Remove's walk has come to. -/
def RemPost (w : World) (b : Nat) (v : Value) (l : List Sp) (s : Sp) (e : Ending) (w' : World) : Prop :=
  if (leftL l s).length ≤ 4096 then e = .returned (.tuple #[.int .i64 (within l s), .int .i64 0]) ∧ RunsPost w b v (leftL l s) w'
  else e = .returned (.tuple #[.int .i64 0, .int .i64 4]) ∧ Below w.heap.size w w'
set_option maxRecDepth 100000 in
set_option maxHeartbeats 1000000 in
theorem lay_full2 {w : World} {b : Nat} {v : Value} {l : List Sp} (h : IsRuns w b v l) (lo hi m cv : Nat) (Av : Option Addr) (hl : l.length ≤ 4096) (hij : lo ≤ hi) (hj : hi ≤ l.length) (hm : m ≤ 8192) (hf : 4096 < l.length - (hi - lo) + m) :
    Calls Try.prog 56 #[.pointer (some ⟨b, 0, none⟩), .int .i64 lo, .int .i64 hi, .slice Av m cv] w fun e w' => e = .returned (.int .i64 4) ∧ w' = w := by
  have hc := h.cell
  obtain ⟨A, c, rfl, _, _⟩ := h.row.form
  have h1 : IntKind.i64.wrap ((hi : Int) - lo) = hi - lo := by rw [IntKind.wrap_i64]; omega
  have h2 : IntKind.i64.wrap ((l.length : Int) - (hi - lo)) = l.length - (hi - lo) := by rw [IntKind.wrap_i64]; omega
  have h3 : IntKind.i64.wrap ((l.length : Int) - (hi - lo) + m) = l.length - (hi - lo) + m := by rw [IntKind.wrap_i64]; omega
  have h4 : (4096 : Int) < (l.length : Int) - (hi - lo) + m := by omega
  go_enter Try.func56, Try.ntmps56
  go_wp2_with fail
  go_ret
  exact ⟨rfl, rfl⟩
theorem keep_len (l : List Sp) : (l.flatMap keepS).length ≤ l.length := by
  induction l with
  | nil => simp
  | cons y l ih => rw [List.flatMap_cons, List.length_append, List.length_cons]; have : (keepS y).length ≤ 1 := by unfold keepS; split <;> simp
                   omega
theorem left_len (l : List Sp) (s : Sp) : (leftL l s).length ≤ 2 * l.length := by
  induction l with
  | nil => simp [leftL]
  | cons y l ih =>
    have h1 := keep_len [belowP y s.1, fromP y s.2]
    have e : leftL (y :: l) s = piecesS s y ++ leftL l s := rfl
    have e2 : [belowP y s.1, fromP y s.2].flatMap keepS = piecesS s y := by simp [piecesS]
    rw [e2] at h1
    rw [e, List.length_append, List.length_cons]
    simp only [List.length_cons, List.length_nil] at h1
    omega
theorem rd_two {W : World} {p0 p1 : Sp} : RdSp (W.alloc (.cells #[.int .i64 p0.1, .int .i64 p0.2, .int .i64 p1.1, .int .i64 p1.2] 24)) (some ⟨W.heap.size, 0, none⟩) [p0, p1] := by
  refine .inr ⟨W.heap.size, 0, rfl, fun t ht => ?_⟩
  have h := World.alloc_heap_new W (.cells #[.int .i64 p0.1, .int .i64 p0.2, .int .i64 p1.1, .int .i64 p1.2] 24)
  have h2 : t = 0 ∨ t = 1 := by simp at ht; omega
  rcases h2 with rfl | rfl
  · exact ⟨by rw [cell_of_at h]; rfl, by rw [cell_of_at h]; rfl⟩
  · exact ⟨by rw [cell_of_at h]; rfl, by rw [cell_of_at h]; rfl⟩
set_option maxRecDepth 100000 in
set_option maxHeartbeats 8000000 in
theorem remove_any {w : World} {b : Nat} {v : Value} {l : List Sp} (h : IsRuns w b v l) (hw : WF l) (hl : l.length ≤ 4096) (s : Sp) (hs : Okay s) (hm : mayB s.1 s.2 = true) :
    Calls Try.prog 24 #[.pointer (some ⟨b, 0, none⟩), .agg #[.int .i64 s.1, .int .i64 s.2]] w (RemPost w b v l s) := by
  have hp1 := rem_rises1 hw s
  have hp2 := rem_rises2 hw s
  have hij : loR l s ≤ hiR l s ∧ hiR l s ≤ l.length := lohiR hw s hs
  obtain ⟨i, hI⟩ : ∃ i, Hid (loR l s = i) := ⟨_, rfl⟩
  obtain ⟨j, hJ⟩ : ∃ j, Hid (hiR l s = j) := ⟨_, rfl⟩
  rw [hI.out, hJ.out] at hij
  have HP := Lib.hid (And.intro h (And.intro hw (And.intro hl (And.intro hs (And.intro hm (And.intro hp1 hp2))))))
  have hne : ¬ s.1 = s.2 := by unfold Okay at hs; omega
  clear h hw hl hs hm hp1 hp2
  go_enter Try.func24, Try.ntmps24
  go_wp2_with fail
  go_at_call 51
  refine (ask_any b s.1 s.2 _).mono ?_
  rw [HP.out.2.2.2.2.1]
  rintro e w1 ⟨rfl, hb⟩
  simp only [if_true]
  have x0 := Below.cell' hb (p := ⟨w.heap.size, 0, none⟩) (v := .int .i64 s.1) (by go_simp); have x1 := Below.cell' hb (p := ⟨w.heap.size, 1, none⟩) (v := .int .i64 s.2) (by go_simp); have xf := Below.frozen' hb (p := ⟨w.heap.size, 0, none⟩) (v := .int .i64 s.1) (by go_simp) (by go_simp); have xg := Below.frozen' hb (p := ⟨w.heap.size, 1, none⟩) (v := .int .i64 s.2) (by go_simp) (by go_simp); have hz := hb.size; (try simp only [World.size_alloc, World.size_setCell] at hz)
  have HB1 : Hid (Below w.heap.size w w1) := Below.then_ (by (repeat (with_reducible first | exact Below.refl _ _ | assumption | (refine Below.setCell ?_ (by first | (simp; done) | (simp; omega) | omega) _) | (refine Below.alloc ?_ (by first | (simp; done) | (simp; omega) | omega) _) | refine Below.drew ?_ | refine Below.drewN_ ?_ _ | (refine Below.then_ ?_ (by with_reducible assumption))))) hb
  clear hb
  go_wp2_with fail
  go_at_call 52
  refine (first_any 62 (fun a w => by kernel_rfl) (.pointer (some ⟨w.heap.size, 0, none⟩)) _ w1 (HP.out.1.below HB1.out) (by have := HP.out.2.2.1; omega) (tests62 x0 x1) HP.out.2.2.2.2.2.1).mono ?_
  intro e w2 hf
  obtain ⟨rfl, hb⟩ := found_idx HP.out.2.2.2.2.2.1 hf
  rw [show firstIdx (fun y => decide (s.1 < y.2)) l = i from hI.out]
  clear hf
  have y0 := Below.cell' hb (p := ⟨w.heap.size, 0, none⟩) (v := .int .i64 s.1) (by go_simp); have y1 := Below.cell' hb (p := ⟨w.heap.size, 1, none⟩) (v := .int .i64 s.2) (by go_simp); have yf := Below.frozen' hb (p := ⟨w.heap.size, 0, none⟩) (v := .int .i64 s.1) (by go_simp) (by go_simp); have yg := Below.frozen' hb (p := ⟨w.heap.size, 1, none⟩) (v := .int .i64 s.2) (by go_simp) (by go_simp); have hz2 := hb.size; (try simp only [World.size_alloc, World.size_setCell] at hz2)
  have HB2 : Hid (Below w.heap.size w w2) := Below.then_ HB1.out hb
  clear hb x0 x1 xf xg
  go_wp2_with fail
  go_at_call 52
  refine (first_any 63 (fun a w => by kernel_rfl) (.pointer (some ⟨w.heap.size, 0, none⟩)) _ w2 (HP.out.1.below HB2.out) (by have := HP.out.2.2.1; omega) (tests63 y0 y1) HP.out.2.2.2.2.2.2).mono ?_
  intro e w3 hf
  obtain ⟨rfl, hb⟩ := found_idx HP.out.2.2.2.2.2.2 hf
  rw [show firstIdx (fun y => decide (s.2 ≤ y.1)) l = j from hJ.out]
  clear hf
  have z0 := Below.cell' hb (p := ⟨w.heap.size, 0, none⟩) (v := .int .i64 s.1) (by go_simp); have z1 := Below.cell' hb (p := ⟨w.heap.size, 1, none⟩) (v := .int .i64 s.2) (by go_simp); have zf := Below.frozen' hb (p := ⟨w.heap.size, 0, none⟩) (v := .int .i64 s.1) (by go_simp) (by go_simp); have zg := Below.frozen' hb (p := ⟨w.heap.size, 1, none⟩) (v := .int .i64 s.2) (by go_simp) (by go_simp); have hz3 := hb.size; (try simp only [World.size_alloc, World.size_setCell] at hz3)
  have HB3 : Hid (Below w.heap.size w w3) := Below.then_ HB2.out hb
  clear hb y0 y1 yf yg
  go_wp2_with fail
  go_at_call 18
  refine (within_any (HP.out.1.below HB3.out) HP.out.2.1 (by have := HP.out.2.2.1; omega) s).mono ?_
  rintro e w4 ⟨rfl, hb⟩
  have x0 := Below.cell' hb (p := ⟨w.heap.size, 0, none⟩) (v := .int .i64 s.1) (by go_simp); have x1 := Below.cell' hb (p := ⟨w.heap.size, 1, none⟩) (v := .int .i64 s.2) (by go_simp); have xf := Below.frozen' hb (p := ⟨w.heap.size, 0, none⟩) (v := .int .i64 s.1) (by go_simp) (by go_simp); have xg := Below.frozen' hb (p := ⟨w.heap.size, 1, none⟩) (v := .int .i64 s.2) (by go_simp) (by go_simp); have hz4 := hb.size; (try simp only [World.size_alloc, World.size_setCell] at hz4)
  have HB4 : Hid (Below w.heap.size w w4) := Below.then_ HB3.out hb
  clear hb z0 z1 zf zg
  obtain ⟨wi, hwi⟩ : ∃ wi, Hid (within l s = wi) := ⟨_, rfl⟩
  rw [hwi.out]
  have HR4 := Lib.hid (HP.out.1.below HB4.out)
  have hb0 := HR4.out.cell
  obtain ⟨A, c, n, rfl, hn, hnc, hcm⟩ : ∃ A c n, v = .slice A n c ∧ Hid (n = l.length) ∧ n ≤ c ∧ c ≤ 9223372036854775807 := by
    obtain ⟨A, c, rfl, h1, h2⟩ := HP.out.1.row.form
    exact ⟨A, c, _, rfl, rfl, h1, h2⟩
  have hjn : j ≤ n := by rw [hn.out]; exact hij.2
  have hn4 : n ≤ 4096 := by rw [hn.out]; exact HP.out.2.2.1
  have hijl := hij.1
  clear hij
  obtain ⟨mid, hmid⟩ : ∃ mid, mid = (l.drop i).take (j - i) := ⟨_, rfl⟩
  have hml : mid.length = j - i := by rw [hmid]; simp; have := hn.out; omega
  have HM : Hid (mid.length = j - i ∧ ∀ x ∈ mid, Okay x) := ⟨hml, fun x hx => HP.out.2.1.may x (List.mem_of_mem_drop (List.mem_of_mem_take (hmid ▸ hx)))⟩
  have HMr : Hid (∀ B, (A = none ∧ B = A) ∨ (∃ g, A = some ⟨g, 0, none⟩ ∧ (c = i ∨ B = some ⟨g, i * 2, none⟩)) → RdSp w4 B mid) := by
    rintro B (⟨rfl, rfl⟩ | ⟨g, rfl, h⟩)
    · left
      rcases HR4.out.row.shape with ⟨hv, hl0⟩ | ⟨g, cap, cur, hv, _⟩
      · rw [hmid, hl0]; simp
      · injection hv with h1; cases h1
    · rcases h with h | rfl
      · left; exact List.eq_nil_of_length_eq_zero (by rw [hml]; omega)
      · rcases HR4.out.row.reads with h0 | ⟨g', o, e, hcc⟩
        · left; rw [hmid, h0]; simp
        · injection e with e; injection e with e1 e2; subst e1; subst e2
          refine .inr ⟨g, i * 2, rfl, fun k hk => ?_⟩
          have h1 := hcc (i + k) (by have := hn.out; omega)
          have e3 : mid[k] = l[i + k]'(by have := hn.out; omega) := by simp [hmid]
          rw [e3, show i * 2 + k * 2 = 0 + (i + k) * 2 by omega, show i * 2 + (k * 2 + 1) = 0 + ((i + k) * 2 + 1) by omega]
          exact h1
  obtain ⟨kk, hkk⟩ : ∃ kk, Hid (kk = j - i) := ⟨_, rfl⟩
  have HMM := Lib.hid hmid
  have HML : Hid (mid.length = kk ∧ ∀ x ∈ mid, Okay x) := ⟨by rw [hkk.out]; exact hml, HM.out.2⟩
  have hkb : kk ≤ 4096 := by have := hkk.out; omega
  clear hml hmid HM
  have g1 : (0 : Int) ≤ i := by omega
  have g2 : (i : Int) ≤ j := by omega
  have g3 : (j : Int) ≤ c := by omega
  have g4 : j ≤ c := by omega
  have n1 : b < w4.heap.size := World.block_lt_of_cell? w4 _ hb0
  have n2 : w.heap.size < w4.heap.size := World.block_lt_of_cell? w4 _ x0
  go_upto_region 8 with fail
  go_cut [44, 45, 46] (fun s44 s45 s46 wx => ∃ B cB, s44 = .slice B kk cB ∧ kk ≤ cB ∧ cB ≤ 9223372036854775807 ∧ s45 = .int .i64 kk ∧ s46 = .int .i64 0 ∧ Hid (RdSp w4 B mid) ∧ wx = w4)
  case first =>
    have hsh := HR4.out.row.shape
    have HC := Lib.hid HMr.out
    rcases hsh with ⟨hv, hl0⟩ | ⟨g, cap, cur, hv, _⟩
    · injection hv with h1 h2 h3
      subst h1; subst h2; subst h3
      obtain rfl : i = 0 := by omega
      obtain rfl : j = 0 := by omega
      clear hl0
      go_wp2_with fail
      go_meet
      have hk0 : kk = 0 := by have := hkk.out; omega
      exact ⟨none, 0, by rw [hk0], by omega, by omega, by first | trivial | (rw [hk0]; rfl), by first | trivial | rfl, HC.out none (by simp), by first | rfl | trivial⟩
    · injection hv with h1 h2 h3
      subst h1
      by_cases hci : c = i
      · have hk0 : j - i = 0 := by omega
        have hk1 : kk = 0 := by have := hkk.out; omega
        have hji : ((j : Int) - i) = 0 := by omega
        have HK := Lib.hid (And.intro hk0 (And.intro hk1 hji)); clear hk0 hk1 hji h2 h3
        go_wp2_with fail
        go_meet
        obtain ⟨hk0, hk1, hji⟩ := HK.out
        exact ⟨some ⟨g, 0, none⟩, 0, by simp [hk1, hk0], by omega, by omega, by first | trivial | (rw [hk1, hk0]; done) | (simp [hk1, hk0]; done), by first | trivial | rfl, HC.out _ (by simp [hci]), by first | rfl | trivial⟩
      · clear h2 h3
        go_wp2_with fail
        go_meet
        exact ⟨some ⟨g, i * 2, none⟩, c - i, by rw [hkk.out], by have := hkk.out; omega, by omega, by first | trivial | rw [hkk.out], by first | trivial | rfl, HC.out _ (by simp), by first | rfl | trivial⟩
  case rest =>
    obtain ⟨B, cB, rfl, hcB, hcBm, rfl, rfl, HRd, rfl⟩ := hcut
    obtain ⟨w5, rfl⟩ : ∃ w5 : World, w5 = wc := ⟨_, rfl⟩
    clear g1 g2 g3 g4 hb0 HMr
    go_wp2_with fail
    go_loopw [46, 10] (fun idx lv wr => ∃ (m : Nat) (A' : Option Addr) (n' c' : Nat), idx = .int .i64 m ∧ m ≤ kk ∧ lv = .slice A' n' c' ∧ Hid (Grows w5 (.slice none 0 0) (.slice A' n' c') (leftL (mid.take m) s) wr)) (fun idx _ _ => kk - (intOf idx).toNat)
    case atStart => exact ⟨0, none, 0, 0, rfl, Nat.zero_le _, rfl, Grows.start _⟩
    case round =>
      obtain ⟨m, A', n', c', rfl, hmk, rfl, HG⟩ := hrel
      by_cases hlt : m < kk
      · have hBw : Below w5.heap.size w5 wr := HG.out.2.2.below (fun k hk h => by rcases h with h | h; { simp [Value.ownBlock] at h }; { omega })
        rcases HRd.out with hnil | ⟨q0, o, rfl, hcc⟩
        · have := HML.out.1; rw [hnil] at this; simp at this; omega
        · have hml : m < mid.length := by have := HML.out.1; omega
          have d5 := Below.cell' hBw (hcc m hml).1
          have d6 := Below.cell' hBw (hcc m hml).2
          obtain ⟨x, hx⟩ : ∃ x, x = mid[m] := ⟨_, rfl⟩
          rw [← hx] at d5 d6; rw [← Nat.add_assoc] at d6
          have hox : Okay x := by rw [hx]; exact HML.out.2 _ (List.getElem_mem hml)
          have htake : mid.take (m + 1) = mid.take m ++ [x] := by rw [hx]; exact List.take_succ_eq_append_getElem hml
          have y0 := Below.cell' hBw x0
          have y1 := Below.cell' hBw x1
          have y0l := World.block_lt_of_cell? wr _ y0
          have hlt' : (m : Int) < kk := by omega
          have HXX := Lib.hid (And.intro hox (And.intro htake hBw))
          clear hcc hx hox htake hBw hml
          dsimp only at y0l
          obtain ⟨wo, rfl⟩ : ∃ wo : World, wo = wr := ⟨_, rfl⟩
          go_upto_region 11 with fail
          go_cut [58, 59, 60] (fun s58 s59 s60 wx => ∃ q : Nat, s58 = .slice (some ⟨q, 0, none⟩) 2 2 ∧ s59 = .int .i64 2 ∧ s60 = .int .i64 0 ∧ q < wx.heap.size ∧ wo.heap.size ≤ q ∧ Hid (RdSp wx (some ⟨q, 0, none⟩) [belowP x s.1, fromP x s.2]) ∧ Hid (Below wo.heap.size wo wx))
          case first =>
            have m1 : ¬ wo.heap.size = w.heap.size := by omega
            have m2 : ¬ w.heap.size = wo.heap.size := by omega
            go_region_held3 (fun w' => w'.cell? ⟨wo.heap.size, 0, none⟩ = some (.int .i64 x.1) ∧ w'.cell? ⟨wo.heap.size, 1, none⟩ = some (.int .i64 x.2) ∧ w'.cell? ⟨w.heap.size, 0, none⟩ = some (.int .i64 s.1) ∧ w'.cell? ⟨w.heap.size, 1, none⟩ = some (.int .i64 s.2)) (go_keep) (first
              | (go_at_call 64; with_reducible refine (below_any x.1 x.2 s.1 _).mono ?_; rintro e V1 ⟨rfl, hv1⟩; dsimp only; have u0 := Below.cell' hv1 (p := ⟨wo.heap.size, 0, none⟩) (v := .int .i64 x.1) (by first | (go_simp; done) | fail "no"); have u1 := Below.cell' hv1 (p := ⟨wo.heap.size, 1, none⟩) (v := .int .i64 x.2) (by first | (go_simp; done) | fail "no"); have u2 := Below.cell' hv1 (p := ⟨w.heap.size, 0, none⟩) (v := .int .i64 s.1) (by first | (go_simp; done) | fail "no"); have u3 := Below.cell' hv1 (p := ⟨w.heap.size, 1, none⟩) (v := .int .i64 s.2) (by first | (go_simp; done) | fail "no"))
              | (go_at_call 65; with_reducible refine (from_any x.1 x.2 s.2 _).mono ?_; rintro e V2 ⟨rfl, hv2⟩; dsimp only; have u0 := Below.cell' hv2 (p := ⟨wo.heap.size, 0, none⟩) (v := .int .i64 x.1) (by first | (go_simp; done) | fail "no"); have u1 := Below.cell' hv2 (p := ⟨wo.heap.size, 1, none⟩) (v := .int .i64 x.2) (by first | (go_simp; done) | fail "no"); have u2 := Below.cell' hv2 (p := ⟨w.heap.size, 0, none⟩) (v := .int .i64 s.1) (by first | (go_simp; done) | fail "no"); have u3 := Below.cell' hv2 (p := ⟨w.heap.size, 1, none⟩) (v := .int .i64 s.2) (by first | (go_simp; done) | fail "no")))
            all_goals
              have hbV : Below wo.heap.size wo V2 := by (repeat (with_reducible first | exact Below.refl _ _ | assumption | (refine Below.setCell ?_ (by first | (simp; done) | (simp; omega) | omega) _) | (refine Below.alloc ?_ (by first | (simp; done) | (simp; omega) | omega) _) | refine Below.drew ?_ | refine Below.drewN_ ?_ _ | (refine Below.then_ ?_ (by with_reducible assumption))))
              have hzV := hbV.size
              clear u0 u1 u2 u3
              go_wp2_with fail
              go_meet
              exact ⟨V2.heap.size, rfl, by first | trivial | rfl, by first | trivial | rfl, by simp, hzV, rd_two, Below.then_ hbV (Below.one _ _)⟩
          case rest =>
            obtain ⟨q, rfl, rfl, rfl, hq1, hq2, HRq, HBq⟩ := hcut
            obtain ⟨L, hL⟩ : ∃ L, Hid (L = leftL (mid.take m) s) := ⟨_, rfl⟩
            obtain ⟨PL, hPL⟩ : ∃ PL, PL = [belowP x s.1, fromP x s.2] := ⟨_, rfl⟩
            rw [← hPL] at HRq
            have hPl : PL.length = 2 := by rw [hPL]; rfl
            have HPL : Hid (PL.length = 2 ∧ PL.flatMap keepS = piecesS s x) := ⟨hPl, by rw [hPL]; simp [piecesS]⟩
            have hown : (Value.slice A' n' c').ownBlock ≠ some q := fun e => by have := HG.out.1.lt e; omega
            have HOw := Lib.hid hown
            have HG0 : Hid (SpRow wc (.slice A' n' c') L) := by rw [hL.out]; exact (HG.out.below HBq.out).1
            have hcf := HG0.out.len
            have hc1 : n' ≤ c' := by omega
            have hc2 : c' ≤ 9223372036854775807 := hcf.2.2
            clear hPL hPl hown hcf hlt' d5 d6 y0 y1 x0 x1
            go_wp2_with fail
            go_loopw [60, 10] (fun idx lv wr => ∃ (t : Nat) (A2 : Option Addr) (n2 c2 : Nat), idx = .int .i64 t ∧ t ≤ 2 ∧ lv = .slice A2 n2 c2 ∧ Hid (Grows wc (.slice A' n' c') (.slice A2 n2 c2) (L ++ (PL.take t).flatMap keepS) wr)) (fun idx _ _ => 2 - (intOf idx).toNat)
            case atStart => exact ⟨0, A', n', c', rfl, by omega, rfl, ⟨by simpa using HG0.out, fun k e => .inl e, Chg.refl _ _⟩⟩
            case round =>
              obtain ⟨t, A2, n2, c2, rfl, ht, rfl, HG2⟩ := hrel
              by_cases htl : t < 2
              · have hchg := HG2.out.2.2
                have hrq := HRq.out.chg hchg (fun ad e => by injection e with e; subst e; rintro (e | e); { exact HOw.out e }; { simp only at e; omega })
                obtain ⟨y, hy⟩ : ∃ y, y = atS PL t := ⟨_, rfl⟩
                have hcells : wr.cell? ⟨q, t * 2, none⟩ = some (.int .i64 y.1) ∧ wr.cell? ⟨q, t * 2 + 1, none⟩ = some (.int .i64 y.2) := by
                  rcases hrq with h0 | ⟨g', o', e, hcc⟩
                  · have := HPL.out.1; rw [h0] at this; simp at this
                  · injection e with e; injection e with e1 e2; subst e1; subst e2
                    have := hcc t (by have := HPL.out.1; omega)
                    rw [← atS_get PL t (by have := HPL.out.1; omega), ← hy, Nat.zero_add, Nat.zero_add] at this
                    exact this
                obtain ⟨d7, d8⟩ := hcells
                have htk : PL.take (t + 1) = PL.take t ++ [y] := by rw [hy, atS_get PL t (by have := HPL.out.1; omega)]; exact List.take_succ_eq_append_getElem (by have := HPL.out.1; omega)
                have HTK := Lib.hid htk
                have hll : (L ++ (PL.take t).flatMap keepS).length ≤ 1000000 := by
                  have h1 := keep_len (PL.take t)
                  have h2 := left_len (mid.take m) s
                  rw [← hL.out] at h2
                  rw [List.length_append]
                  simp only [List.length_take] at h1 h2
                  omega
                have HLL := Lib.hid hll
                have hform := HG2.out.1.len
                have hn2 : n2 ≤ c2 := by omega
                have hc2m : c2 ≤ 9223372036854775807 := hform.2.2
                clear hchg hrq hy htk hll hform
                by_cases hk : 0 < spLen y.1 y.2
                · go_wp2_with fail
                  go_at_call 57
                  refine (len_any y.1 y.2 _).mono ?_
                  rintro e V1 ⟨rfl, hv1⟩
                  have z0 := Below.cell' hv1 (p := ⟨wr.heap.size, 0, none⟩) (v := .int .i64 y.1) (by go_simp)
                  have z1 := Below.cell' hv1 (p := ⟨wr.heap.size, 1, none⟩) (v := .int .i64 y.2) (by go_simp)
                  have HV : Hid (Below wr.heap.size wr V1) := Below.then_ (Below.one _ _) hv1
                  clear hv1 d7 d8
                  obtain ⟨v', V3, hrun, hrow, hch, hown⟩ := append_row_sp ((HG2.out.1.below HV.out).below (Below.one V1 (.cells #[.int .i64 y.1, .int .i64 y.2] 24))) 1 1 (some ⟨V1.heap.size, 0, none⟩) [y] rfl (by decide) (.inr ⟨V1.heap.size, 0, rfl, fun i hi => by
                    obtain rfl : i = 0 := by simpa using hi
                    exact ⟨by rw [cell_of_at (World.alloc_heap_new V1 _)]; rfl, by rw [cell_of_at (World.alloc_heap_new V1 _)]; rfl⟩⟩) (by have := HLL.out; omega)
                  obtain ⟨N3, A3, c3, rfl⟩ : ∃ N A' c', v' = .slice A' N c' := by
                    obtain ⟨A', c', e, _, _⟩ := hrow.form
                    exact ⟨_, A', c', e⟩
                  have HRun := Lib.hid hrun
                  have HGr : Hid (Grows wc (.slice A' n' c') (.slice A3 N3 c3) (L ++ (PL.take (t + 1)).flatMap keepS) V3) := by
                    have := Grows.step HG2.out (Below.then_ HV.out (Below.one V1 (.cells #[.int .i64 y.1, .int .i64 y.2] 24))) hrow hch hown
                    rw [HTK.out, List.flatMap_append, ← List.append_assoc]
                    have e : List.flatMap keepS [y] = [y] := by simp [keepS]; exact hk
                    rw [e]
                    exact this
                  clear hrun hrow hch hown
                  go_wp2_with (refine ev_list (o := ⟨some 70, _, _, _, _, _⟩) rfl (exec_append rfl rfl rfl HRun.out) ?_)
                  go_roundw
                  case rel => exact ⟨t + 1, A3, N3, c3, by go_num, by omega, rfl, HGr⟩
                  case measure => simp [intOf]; omega
                · go_wp2_with fail
                  go_at_call 57
                  refine (len_any y.1 y.2 _).mono ?_
                  rintro e V1 ⟨rfl, hv1⟩
                  have HV : Hid (Below wr.heap.size wr V1) := Below.then_ (Below.one _ _) hv1
                  have HGr : Hid (Grows wc (.slice A' n' c') (.slice A2 n2 c2) (L ++ (PL.take (t + 1)).flatMap keepS) V1) := by
                    have := HG2.out.below HV.out
                    rw [HTK.out, List.flatMap_append, ← List.append_assoc]
                    have e : List.flatMap keepS [y] = [] := by
                      have h1 : ¬ 0 < lenOf y := fun h => by have h : 0 < spLen y.1 y.2 := h; omega
                      simp only [keepS, List.flatMap_cons, List.flatMap_nil, List.append_nil, if_neg h1]
                    rw [e, List.append_nil]
                    exact this
                  clear hv1 d7 d8
                  go_wp2_with fail
                  go_roundw
                  case rel => exact ⟨t + 1, A2, n2, c2, by go_num, by omega, rfl, HGr⟩
                  case measure => simp [intOf]; omega
              · obtain rfl : t = 2 := by omega
                have HGo : Hid (Grows w5 (.slice none 0 0) (.slice A2 n2 c2) (leftL (mid.take (m + 1)) s) wr) := by
                  have h1 := (HG.out.trans HBq.out HG2.out)
                  rw [HXX.out.2.1, leftL_append, ← hL.out, show leftL [x] s = piecesS s x by simp [leftL]]
                  rw [List.take_of_length_le (by have := HPL.out.1; omega), HPL.out.2] at h1
                  exact h1
                go_wp2_with fail
                go_roundw
                case rel => exact ⟨m + 1, A2, n2, c2, by go_num, by omega, rfl, HGo⟩
                case measure => simp [intOf]; omega
      · obtain rfl : m = kk := by omega
        have hmk : mid.take m = mid := List.take_of_length_le (by have := HML.out.1; omega)
        rw [hmk] at HG
        have HB5 : Hid (Below w5.heap.size w5 wr) := HG.out.2.2.below (fun k hk h => by rcases h with h | h; { simp [Value.ownBlock] at h }; { omega })
        have HR5 := Lib.hid (HR4.out.below HB5.out)
        have hlf := HG.out.1.len
        have hc2 : n' ≤ c' := by omega
        have hc2m : c' ≤ 9223372036854775807 := hlf.2.2
        have hwhole := rem_whole HP.out.2.1 HP.out.2.2.2.1
        rw [hI.out, hJ.out, ← HMM.out] at hwhole
        have hlenL : (leftL l s).length = l.length - (j - i) + n' := by
          rw [← hwhole]
          simp only [List.length_append, List.length_take, List.length_drop]
          have := hn.out; omega
        have hLl := left_len mid s
        have hap : ∀ ad, A' = some ad → Plain wr ad.block ∧ some ad.block ≠ (Value.slice A n c).ownBlock := by
          intro ad e
          subst e
          rcases HG.out.1.shape with ⟨hv, _⟩ | ⟨g, cap, cur, hv, hh, _⟩
          · injection hv with hv; cases hv
          · injection hv with h1 h2 h3
            injection h1 with h1
            subst h1
            refine ⟨⟨_, _, hh⟩, fun e => ?_⟩
            have h1 := HG.out.2.1 g (by simp [Value.ownBlock])
            have h2 := HR4.out.row.lt e.symm
            rcases h1 with h1 | h1
            · simp [Value.ownBlock] at h1
            · simp only at h2; omega
        have HW := Lib.hid (And.intro hwhole (And.intro hlenL (And.intro hap hLl)))
        have hmm4 : m ≤ 4096 := hkb
        clear hwhole hlenL hap hLl hmk x0 x1 xf xg hlf
        go_wp2_with fail
        go_at_call 56
        by_cases hfit : l.length - (j - i) + n' ≤ 4096
        · have hrep := replace_all A n c n' c' i j A' l (leftL mid s) wr HR5.out.row hijl hjn HG.out.1.len.1 HG.out.1.reads HW.out.2.2.1 (by omega)
          with_reducible refine (lay_ok HR5.out i j n' c' A' (leftL mid s) HP.out.2.2.1 hijl (by have := hn.out; omega) (by omega) hfit hrep).mono ?_
          rintro e w6 ⟨rfl, hpost⟩
          rw [HW.out.1] at hpost
          have HPo := Lib.hid (And.intro hpost hfit); clear hpost hfit hrep
          go_wp2_with fail
          refine bodyPost_ret (v := .tuple #[(.int .i64 wi), (.int .i64 0)]) (by simp [results, Try.results24, go_sem]) rfl ?_
          obtain ⟨hpost, hfit⟩ := HPo.out
          obtain ⟨v', hIs, hch, hown⟩ := hpost
          unfold RemPost
          rw [if_pos (by rw [HW.out.2.1]; exact hfit), hwi.out]
          refine ⟨rfl, v', hIs, ?_, ?_⟩
          · exact (Chg.of_below (M := fun k => k = b ∨ some k = (Value.slice A n c).ownBlock) (Below.then_ HB4.out HB5.out)).trans hch (fun _ _ h => h)
          · rcases hown with h | ⟨g, h, hg⟩
            · exact .inl h
            · have h1 := HB4.out.size
              have h2 := HB5.out.size
              exact .inr ⟨g, h, by omega⟩
        · have hn8 : n' ≤ 8192 := by have := HW.out.2.2.2; have := HG.out.1.len.1; have := HML.out.1; omega
          with_reducible refine (lay_full2 HR5.out i j n' c' A' HP.out.2.2.1 hijl (by have := hn.out; omega) hn8 (by omega)).mono ?_
          rintro e w6 ⟨rfl, rfl⟩
          have HF := Lib.hid hfit; clear hfit
          go_wp2_with fail
          refine bodyPost_ret (v := .tuple #[.int .i64 0, .int .i64 4]) (by simp [results, Try.results24, go_sem]) rfl ?_
          unfold RemPost
          rw [if_neg (by rw [HW.out.2.1]; exact HF.out)]
          exact ⟨rfl, Below.then_ HB4.out HB5.out⟩
/-- What a removal leaves, whatever is removed. -/
theorem remove_set {W : World} {b : Nat} {r : Option Nat} {l : List Sp} (h : SetAt W b r l) (hw : WF l) (hl : l.length ≤ 4095) (s : Sp) :
    Calls Try.prog 24 #[.pointer (some ⟨b, 0, none⟩), .agg #[.int .i64 s.1, .int .i64 s.2]] W (AddsTo W b r (remS l s) (remN l s) (errM s)) := by
  obtain ⟨v, h1, rfl⟩ := h
  rcases may_cases s with hs | ⟨hs, he, hm⟩ | ⟨hs, hm⟩
  · refine (remove_any h1 hw (by omega) s hs (may_ok hs)).mono ?_
    intro e W' h
    unfold RemPost at h
    rw [if_pos (by have := (leftL_in hs hw).2.2; omega)] at h
    obtain ⟨rfl, v', hI, hch, hown⟩ := h
    unfold remS remN errM
    rw [if_pos hs, if_pos hs, if_pos (may_ok hs)]
    exact ⟨rfl, _, ⟨v', hI, rfl⟩, hch, hown⟩
  · unfold remS remN errM
    rw [if_neg hs, if_neg hs, if_pos hm]
    have key := remove_empty b s.1 (by rw [← he] at hm; exact hm) W
    rw [show (Value.agg #[.int .i64 s.1, .int .i64 s.2]) = .agg #[.int .i64 s.1, .int .i64 s.1] by rw [← he]]
    refine key.mono ?_
    rintro e W' ⟨rfl, hb⟩
    exact ⟨rfl, _, ⟨v, h1.below hb, rfl⟩, Chg.of_below hb, .inl rfl⟩
  · unfold remS remN errM
    rw [if_neg hs, if_neg hs, if_neg (by simp [hm])]
    refine (remove_bad b s hm W).mono ?_
    rintro e W' ⟨rfl, hb⟩
    exact ⟨rfl, _, ⟨v, h1.below hb, rfl⟩, Chg.of_below hb, .inl rfl⟩
end Go.Proofs.Ytcifbcdjkofomaa
