/-
  (*runs.Runs).Add. Conditions: the set's row rises and does not touch.
-/
import Derived.Test.YtcifbcdjkofomaaLay
namespace Go.Proofs.Ytcifbcdjkofomaa
open Go.RowKit Go.Shelf
set_option linter.unusedVariables false
set_option linter.unusedSimpArgs false


/-- What the statement 'append(s[i:j:j], x)' and the hull of it come to, wherever the world has come to. -/
def Joins (w : World) (X : Value) (s H : Sp) : Prop :=
  ∀ (W : World) (q : Nat), Below w.heap.size w W → W.cell? ⟨q, 0, none⟩ = some (.int .i64 s.1) → W.cell? ⟨q, 1, none⟩ = some (.int .i64 s.2) →
    ∃ W' A' N c', (Builtin.append_ #[22, 22] 22 #[X, .slice (some ⟨q, 0, none⟩) 1 1]).run Try.prog W = .ok (.slice A' N c') W' ∧ Below W.heap.size W W' ∧
      ∀ W'', Below W'.heap.size W' W'' → Calls Try.prog 55 #[.slice A' N c'] W'' fun e w' => e = .returned (.agg #[.int .i64 H.1, .int .i64 H.2]) ∧ Below W''.heap.size W'' w'

section
variable {a : Act} {o : Oper} {ops : Array Oper} {w W : World} {q : Nat} {Q : Exit → Act → World → Prop}
theorem joins_step {X : Value} {s H : Sp} (hj : Joins w X s H) {K : Act → World → Prop} {E : Prop} {x1 x2 : Operand} (hgd : o.guard = none) (ho : o.op = .call { callee := .builtin .append, args := #[x1, x2], argTypes := #[22, 22] }) (hty : o.type = 22)
    (hs : a.eval x1 = X) (hx : a.eval x2 = .slice (some ⟨q, 0, none⟩) 1 1) (hb : Below w.heap.size w W) (h0 : W.cell? ⟨q, 0, none⟩ = some (.int .i64 s.1)) (h1 : W.cell? ⟨q, 1, none⟩ = some (.int .i64 s.2))
    (h : ∀ W' A' N c', Below W.heap.size W W' → Hid (∀ W'', Below W'.heap.size W' W'' → Calls Try.prog 55 #[.slice A' N c'] W'' fun e w' => e = .returned (.agg #[.int .i64 H.1, .int .i64 H.2]) ∧ Below W''.heap.size W'' w') → K (a.put o.dst (.slice A' N c')) W') :
    if Region.wanted o (yielded ops a.tmps) = true then Oper.wp Try.prog o a W K Q else E := by
  obtain ⟨W', A', N, c', hrun, hbe, hcalls⟩ := hj W q hb h0 h1
  exact ev_step hgd (exec_append ho hs hx (by rw [hty]; exact hrun)) (h W' A' N c' hbe hcalls)
end
theorem rd_one {W : World} {q : Nat} {s : Sp} (h0 : W.cell? ⟨q, 0, none⟩ = some (.int .i64 s.1)) (h1 : W.cell? ⟨q, 1, none⟩ = some (.int .i64 s.2)) : RdSp W (some ⟨q, 0, none⟩) [s] := by
  refine .inr ⟨q, 0, rfl, fun i hi => ?_⟩
  obtain rfl : i = 0 := by simpa using hi
  exact ⟨h0, h1⟩

theorem joins_any {w : World} {A : Option Addr} {n c : Nat} {l : List Sp} (h : SpRow w (.slice A n c) l) (i j : Nat) (hij : i ≤ j) (hj : j ≤ n) (hl : n ≤ 4096) (s : Sp)
    (hok : ∀ x ∈ (l.drop i).take (j - i) ++ [s], Okay x) (B : Option Addr) (hB : (A = none ∧ B = none ∧ i = j) ∨ (∃ g, A = some ⟨g, 0, none⟩ ∧ ((i = j ∧ B = some ⟨g, 0, none⟩) ∨ (i < j ∧ B = some ⟨g, i * 2, none⟩)))) :
    Joins w (.slice B (j - i) (j - i)) s (hull1 ((l.drop i).take (j - i) ++ [s])) := by
  intro W q hW h0 h1
  have hlen := h.len
  have hmid : ((l.drop i).take (j - i)).length = j - i := by simp; omega
  have hr1 := rd_one h0 h1
  have fin : ∀ (W' : World) (A' : Option Addr) (N c' : Nat), N = j - i + 1 → N ≤ c' → RdSp W' A' ((l.drop i).take (j - i) ++ [s]) → ∀ W'', Below W'.heap.size W' W'' → Calls Try.prog 55 #[.slice A' N c'] W'' fun e w' => e = .returned (.agg #[.int .i64 (hull1 ((l.drop i).take (j - i) ++ [s])).1, .int .i64 (hull1 ((l.drop i).take (j - i) ++ [s])).2]) ∧ Below W''.heap.size W'' w' := by
    intro W' A' N c' hN hc hr W'' hb
    obtain rfl : N = ((l.drop i).take (j - i) ++ [s]).length := by rw [List.length_append, hmid]; exact hN
    exact hull_any A' c' _ W'' (hr.below hb) hc (by rw [List.length_append, hmid]; simp; omega) hok
  rcases hB with ⟨rfl, rfl, rfl⟩ | ⟨g, rfl, hB⟩
  · obtain ⟨v', W', hrun, hpost⟩ := append_row_sp (SpRow.nil W) 1 1 (some ⟨q, 0, none⟩) [s] rfl (by decide) hr1 (by simp)
    obtain ⟨A', c', rfl, hc, _⟩ := hpost.1.form
    rw [Nat.sub_self] at *
    refine ⟨W', A', _, c', hrun, hpost.2.1.below (fun k _ e => by simp [Value.ownBlock] at e), fin W' A' _ c' (by simp) (by simpa using hc) ?_⟩
    have := hpost.1.reads
    simpa using this
  · have hrow : RdSp W (some ⟨g, 0, none⟩) l := h.reads.below hW
    have olds : ∃ b : Addr, B = some b ∧ ∀ t v, (cellsOf ((l.drop i).take (j - i)))[t]? = some v → W.cell? (b.add t) = some v := by
      rcases hB with ⟨rfl, rfl⟩ | ⟨hlt, rfl⟩
      · exact ⟨_, rfl, fun t v ht => by simp [cellsOf] at ht⟩
      · refine ⟨_, rfl, fun t v ht => ?_⟩
        obtain ⟨ad, ha, hsrc⟩ := hrow.src (by omega)
        injection ha with ha
        subst ha
        have := hsrc (i * 2 + t) v ?_
        · have e : (⟨g, i * 2, none⟩ : Addr).add t = (⟨g, 0, none⟩ : Addr).add (i * 2 + t) := by
            unfold Addr.add; simp only; split <;> split <;> simp_all
          rw [e]; exact this
        · rw [cellsOf_take, cellsOf_drop] at ht
          rw [List.getElem?_take] at ht
          split at ht
          · simpa using ht
          · cases ht
    obtain ⟨b, rfl, holds⟩ := olds
    obtain ⟨ad, ha, hsrc⟩ := hr1.src (by simp)
    injection ha with ha
    obtain ⟨W', c', cur', hrun, hat, hcl, hct, hge, hcm, hbe⟩ := append_grow_sp W (j - i) (j - i) 1 1 b ⟨q, 0, none⟩ (cellsOf ((l.drop i).take (j - i))) (cellsOf [s]) (by rw [cellsOf_length, hmid]) holds (by simp [cellsOf_length]) (by rw [ha]; exact hsrc) (by omega) (by omega)
    refine ⟨W', _, _, c', hrun 22, hbe, fin W' _ _ c' rfl hge ?_⟩
    refine (SpRow.mk_arr (cap := c') (l := (l.drop i).take (j - i) ++ [s]) hat hcl ?_ ?_ hcm).reads
    · rw [List.length_append, hmid, cellsOf_append]; exact hct
    · rw [List.length_append, hmid]; exact hge
theorem tests53 {w : World} {g : Nat} {s : Sp} (h0 : w.cell? ⟨g, 0, none⟩ = some (.int .i64 s.1)) (h1 : w.cell? ⟨g, 1, none⟩ = some (.int .i64 s.2)) : Tests w 53 (.pointer (some ⟨g, 0, none⟩)) (fun y => decide (s.1 ≤ y.2)) :=
  fun x W hb => add1_any x.1 x.2 s.1 s.2 g W (Below.cell' hb h0) (Below.cell' hb h1)
theorem tests54 {w : World} {g : Nat} {s : Sp} (h0 : w.cell? ⟨g, 0, none⟩ = some (.int .i64 s.1)) (h1 : w.cell? ⟨g, 1, none⟩ = some (.int .i64 s.2)) : Tests w 54 (.pointer (some ⟨g, 0, none⟩)) (fun y => decide (s.2 < y.1)) :=
  fun x W hb => add2_any x.1 x.2 s.1 s.2 g W (Below.cell' hb h0) (Below.cell' hb h1)
def loA (l : List Sp) (s : Sp) : Nat := firstIdx (fun y => decide (s.1 ≤ y.2)) l
def hiA (l : List Sp) (s : Sp) : Nat := firstIdx (fun y => decide (s.2 < y.1)) l
def hullA (l : List Sp) (s : Sp) : Sp := hull1 ((l.drop (loA l s)).take (hiA l s - loA l s) ++ [s])
def addL (l : List Sp) (s : Sp) : List Sp := l.take (loA l s) ++ [hullA l s] ++ l.drop (hiA l s)

theorem add_nil (s : Sp) (w : World) : Calls Try.prog 15 #[.pointer none, .agg #[.int .i64 s.1, .int .i64 s.2]] w fun e w' => e = .returned (.tuple #[.int .i64 0, .int .i64 1]) ∧ Below w.heap.size w w' := by
  go_enter Try.func15, Try.ntmps15
  go_wp2_with fail
  go_at_call 51
  refine (ask_nil s.1 s.2 _).mono ?_
  rintro e w1 ⟨rfl, hb⟩
  have x0 := Below.cell' hb (p := ⟨w.heap.size, 0, none⟩) (v := .int .i64 s.1) (by go_simp); have x1 := Below.cell' hb (p := ⟨w.heap.size, 1, none⟩) (v := .int .i64 s.2) (by go_simp); have xf := Below.frozen' hb (p := ⟨w.heap.size, 0, none⟩) (v := .int .i64 s.1) (by go_simp) (by go_simp); have xg := Below.frozen' hb (p := ⟨w.heap.size, 1, none⟩) (v := .int .i64 s.2) (by go_simp) (by go_simp); have hz := hb.size; (try simp only [World.size_alloc, World.size_setCell] at hz)
  have HB := Lib.hid hb; clear hb
  go_wp2_with fail
  refine bodyPost_ret (v := .tuple #[.int .i64 0, .int .i64 1]) (by simp [results, Try.results15, go_sem]) rfl ?_
  exact ⟨rfl, Below.then_ (Below.one _ _) HB.out⟩
set_option maxRecDepth 100000 in
set_option maxHeartbeats 1000000 in
theorem add_bad (b : Nat) (s : Sp) (hs : mayB s.1 s.2 = false) (w : World) : Calls Try.prog 15 #[.pointer (some ⟨b, 0, none⟩), .agg #[.int .i64 s.1, .int .i64 s.2]] w fun e w' => e = .returned (.tuple #[.int .i64 0, .int .i64 3]) ∧ Below w.heap.size w w' := by
  go_enter Try.func15, Try.ntmps15
  go_wp2_with fail
  go_at_call 51
  refine (ask_any b s.1 s.2 _).mono ?_
  rw [hs, if_neg (by decide)]
  rintro e w1 ⟨rfl, hb⟩
  have x0 := Below.cell' hb (p := ⟨w.heap.size, 0, none⟩) (v := .int .i64 s.1) (by go_simp); have x1 := Below.cell' hb (p := ⟨w.heap.size, 1, none⟩) (v := .int .i64 s.2) (by go_simp); have xf := Below.frozen' hb (p := ⟨w.heap.size, 0, none⟩) (v := .int .i64 s.1) (by go_simp) (by go_simp); have xg := Below.frozen' hb (p := ⟨w.heap.size, 1, none⟩) (v := .int .i64 s.2) (by go_simp) (by go_simp); have hz := hb.size; (try simp only [World.size_alloc, World.size_setCell] at hz)
  have HB := Lib.hid hb; clear hb
  go_wp2_with fail
  refine bodyPost_ret (v := .tuple #[.int .i64 0, .int .i64 3]) (by simp [results, Try.results15, go_sem]) rfl ?_
  exact ⟨rfl, Below.then_ (Below.one _ _) HB.out⟩
set_option maxRecDepth 100000 in
set_option maxHeartbeats 1000000 in
set_option maxHeartbeats 1000000 in
set_option maxRecDepth 100000 in
theorem add_empty (b : Nat) (a : Int) (hs : mayB a a = true) (w : World) : Calls Try.prog 15 #[.pointer (some ⟨b, 0, none⟩), .agg #[.int .i64 a, .int .i64 a]] w fun e w' => e = .returned (.tuple #[.int .i64 0, .int .i64 0]) ∧ Below w.heap.size w w' := by
  go_enter Try.func15, Try.ntmps15
  go_wp2_with fail
  go_at_call 51
  refine (ask_any b a a _).mono ?_
  rw [hs, if_pos rfl]
  rintro e w1 ⟨rfl, hb⟩
  have x0 := Below.cell' hb (p := ⟨w.heap.size, 0, none⟩) (v := .int .i64 a) (by go_simp); have x1 := Below.cell' hb (p := ⟨w.heap.size, 1, none⟩) (v := .int .i64 a) (by go_simp); have xf := Below.frozen' hb (p := ⟨w.heap.size, 0, none⟩) (v := .int .i64 a) (by go_simp) (by go_simp); have xg := Below.frozen' hb (p := ⟨w.heap.size, 1, none⟩) (v := .int .i64 a) (by go_simp) (by go_simp); have hz := hb.size; (try simp only [World.size_alloc, World.size_setCell] at hz)
  have HB := Lib.hid hb; clear hb hs
  go_wp2_with fail
  refine bodyPost_ret (v := .tuple #[.int .i64 0, .int .i64 0]) (by simp [results, Try.results15, go_sem]) rfl ?_
  exact ⟨rfl, Below.then_ (Below.one _ _) HB.out⟩
theorem lohi {l : List Sp} (hw : WF l) (s : Sp) (hs : Okay s) (hp1 : Rises l (fun y => decide (s.1 ≤ y.2))) (hp2 : Rises l (fun y => decide (s.2 < y.1))) : loA l s ≤ hiA l s ∧ hiA l s ≤ l.length := by
  have aux : ∀ i j, FirstOf l.length (fun k => decide (s.1 ≤ (atS l k).2)) i → FirstOf l.length (fun k => decide (s.2 < (atS l k).1)) j → i ≤ j := by
    intro i j h1 h2
    refine Nat.le_of_not_lt fun hc => ?_
    have h0 := h1.1
    have e1 := h1.2.1 j hc
    have e2 := h2.2.2 j (Nat.le_refl _) (by omega)
    have e3 := hw.at_ j (by omega)
    unfold Okay at hs
    simp only [decide_eq_false_iff_not, decide_eq_true_eq] at e1 e2
    omega
  exact ⟨aux _ _ (firstOf_idx _ l hp1) (firstOf_idx _ l hp2), List.findIdx_le_length⟩

theorem within_bounds {l : List Sp} (hw : WF l) (s : Sp) : 0 ≤ within l s ∧ within l s ≤ 4611686018427387904 := by
  unfold within
  split
  · omega
  · have h1 := sumLen_meetsL s (l.drop (firstIdx (fun y => decide (s.1 < y.2)) l))
    have h2 := sumLen_total (hw.drop (firstIdx (fun y => decide (s.1 < y.2)) l))
    have h3 := sumLen_nonneg (meetsL s (l.drop (firstIdx (fun y => decide (s.1 < y.2)) l)))
    omega
/-- What Add's walk has come to once the row is laid anew, or not. -/
def AddPost (w : World) (b : Nat) (v : Value) (l : List Sp) (s : Sp) (e : Ending) (w' : World) : Prop :=
  if (addL l s).length ≤ 4096 then e = .returned (.tuple #[.int .i64 (lenOf s - within l s), .int .i64 0]) ∧ RunsPost w b v (addL l s) w'
  else e = .returned (.tuple #[.int .i64 0, .int .i64 4]) ∧ Below w.heap.size w w'
set_option maxRecDepth 100000 in
set_option maxHeartbeats 4000000 in
theorem add_any {w : World} {b : Nat} {v : Value} {l : List Sp} (h : IsRuns w b v l) (hw : WF l) (hl : l.length ≤ 4096) (s : Sp) (hs : Okay s) (hm : mayB s.1 s.2 = true) :
    Calls Try.prog 15 #[.pointer (some ⟨b, 0, none⟩), .agg #[.int .i64 s.1, .int .i64 s.2]] w (AddPost w b v l s) := by
  have hp1 : Rises l (fun y => decide (s.1 ≤ y.2)) := hw.rises_to (fun a => decide (s.1 ≤ a)) (fun a b h1 h2 => by simp at *; omega)
  have hp2 : Rises l (fun y => decide (s.2 < y.1)) := hw.rises_from (fun a => decide (s.2 < a)) (fun a b h1 h2 => by simp at *; omega)
  have hij : loA l s ≤ hiA l s ∧ hiA l s ≤ l.length := lohi hw s hs hp1 hp2
  obtain ⟨i, hI⟩ : ∃ i, Hid (loA l s = i) := ⟨_, rfl⟩
  obtain ⟨j, hJ⟩ : ∃ j, Hid (hiA l s = j) := ⟨_, rfl⟩
  rw [hI.out, hJ.out] at hij
  have HP := Lib.hid (And.intro h (And.intro hw (And.intro hl (And.intro hs (And.intro hm (And.intro hp1 hp2))))))
  have hne : ¬ s.1 = s.2 := by unfold Okay at hs; omega
  clear h hw hl hs hm hp1 hp2
  go_enter Try.func15, Try.ntmps15
  go_wp2_with fail
  go_at_call 51
  refine (ask_any b s.1 s.2 _).mono ?_
  rw [HP.out.2.2.2.2.1]
  rintro e w1 ⟨rfl, hb⟩
  simp only [if_true]
  have x0 := Below.cell' hb (p := ⟨w.heap.size, 0, none⟩) (v := .int .i64 s.1) (by go_simp); have x1 := Below.cell' hb (p := ⟨w.heap.size, 1, none⟩) (v := .int .i64 s.2) (by go_simp); have xf := Below.frozen' hb (p := ⟨w.heap.size, 0, none⟩) (v := .int .i64 s.1) (by go_simp) (by go_simp); have xg := Below.frozen' hb (p := ⟨w.heap.size, 1, none⟩) (v := .int .i64 s.2) (by go_simp) (by go_simp); have hz := hb.size; (try simp only [World.size_alloc, World.size_setCell] at hz)
  have HB1 : Hid (Below w.heap.size w w1) := Below.then_ (by (repeat (with_reducible first | exact Below.refl _ _ | assumption | (refine Below.setCell ?_ (by first | (simp; done) | (simp; omega) | omega) _) | (refine Below.alloc ?_ (by first | (simp; done) | (simp; omega) | omega) _) | refine Below.drew ?_ | refine Below.drewN_ ?_ _ | (refine Below.then_ ?_ (by with_reducible assumption))))) hb
  clear hb
  go_wp2_with fail
  go_at_call 52
  refine (first_any 53 (fun a w => by kernel_rfl) (.pointer (some ⟨w.heap.size, 0, none⟩)) _ w1 (HP.out.1.below HB1.out) (by have := HP.out.2.2.1; omega) (tests53 x0 x1) HP.out.2.2.2.2.2.1).mono ?_
  intro e w2 hf
  obtain ⟨rfl, hb⟩ := found_idx HP.out.2.2.2.2.2.1 hf
  rw [show firstIdx (fun y => decide (s.1 ≤ y.2)) l = i from hI.out]
  clear hf
  have y0 := Below.cell' hb (p := ⟨w.heap.size, 0, none⟩) (v := .int .i64 s.1) (by go_simp); have y1 := Below.cell' hb (p := ⟨w.heap.size, 1, none⟩) (v := .int .i64 s.2) (by go_simp); have yf := Below.frozen' hb (p := ⟨w.heap.size, 0, none⟩) (v := .int .i64 s.1) (by go_simp) (by go_simp); have yg := Below.frozen' hb (p := ⟨w.heap.size, 1, none⟩) (v := .int .i64 s.2) (by go_simp) (by go_simp); have hz2 := hb.size; (try simp only [World.size_alloc, World.size_setCell] at hz2)
  have HB2 : Hid (Below w.heap.size w w2) := Below.then_ HB1.out hb
  clear hb x0 x1 xf xg
  go_wp2_with fail
  go_at_call 52
  refine (first_any 54 (fun a w => by kernel_rfl) (.pointer (some ⟨w.heap.size, 0, none⟩)) _ w2 (HP.out.1.below HB2.out) (by have := HP.out.2.2.1; omega) (tests54 y0 y1) HP.out.2.2.2.2.2.2).mono ?_
  intro e w3 hf
  obtain ⟨rfl, hb⟩ := found_idx HP.out.2.2.2.2.2.2 hf
  rw [show firstIdx (fun y => decide (s.2 < y.1)) l = j from hJ.out]
  clear hf
  have z0 := Below.cell' hb (p := ⟨w.heap.size, 0, none⟩) (v := .int .i64 s.1) (by go_simp); have z1 := Below.cell' hb (p := ⟨w.heap.size, 1, none⟩) (v := .int .i64 s.2) (by go_simp); have zf := Below.frozen' hb (p := ⟨w.heap.size, 0, none⟩) (v := .int .i64 s.1) (by go_simp) (by go_simp); have zg := Below.frozen' hb (p := ⟨w.heap.size, 1, none⟩) (v := .int .i64 s.2) (by go_simp) (by go_simp); have hz3 := hb.size; (try simp only [World.size_alloc, World.size_setCell] at hz3)
  have HB3 : Hid (Below w.heap.size w w3) := Below.then_ HB2.out hb
  clear hb y0 y1 yf yg
  go_wp2_with fail
  go_at_call 18
  refine (within_any (HP.out.1.below HB3.out) HP.out.2.1 (by have := HP.out.2.2.1; omega) s).mono ?_
  rintro e w4 ⟨rfl, hb⟩
  have x0 := Below.cell' hb (p := ⟨w.heap.size, 0, none⟩) (v := .int .i64 s.1) (by go_simp); have x1 := Below.cell' hb (p := ⟨w.heap.size, 1, none⟩) (v := .int .i64 s.2) (by go_simp); have xf := Below.frozen' hb (p := ⟨w.heap.size, 0, none⟩) (v := .int .i64 s.1) (by go_simp) (by go_simp); have xg := Below.frozen' hb (p := ⟨w.heap.size, 1, none⟩) (v := .int .i64 s.2) (by go_simp) (by go_simp); have hz4 := hb.size; (try simp only [World.size_alloc, World.size_setCell] at hz4)
  have HB4 : Hid (Below w.heap.size w w4) := Below.then_ HB3.out hb
  clear hb z0 z1 zf zg
  go_wp2_with fail
  obtain ⟨H, hH⟩ : ∃ H, Hid (hullA l s = H) := ⟨_, rfl⟩
  have HR4 := Lib.hid (HP.out.1.below HB4.out)
  have hb0 := HR4.out.cell
  have hokm : ∀ x ∈ (l.drop i).take (j - i) ++ [s], Okay x := by
    intro x hx
    rcases List.mem_append.1 hx with hx | hx
    · exact HP.out.2.1.may x (List.mem_of_mem_drop (List.mem_of_mem_take hx))
    · obtain rfl : x = s := by simpa using hx
      exact HP.out.2.2.2.1
  have hokH : Okay H := by rw [← hH.out]; unfold hullA; rw [hI.out, hJ.out]; exact hull1_okay hokm (by simp)
  have hHe : hull1 ((l.drop i).take (j - i) ++ [s]) = H := by rw [← hH.out]; unfold hullA; rw [hI.out, hJ.out]
  obtain ⟨A, c, n, rfl, hn, hnc, hcm⟩ : ∃ A c n, v = .slice A n c ∧ Hid (n = l.length) ∧ n ≤ c ∧ c ≤ 9223372036854775807 := by
    obtain ⟨A, c, rfl, h1, h2⟩ := HP.out.1.row.form
    exact ⟨A, c, _, rfl, rfl, h1, h2⟩
  have hjn : j ≤ n := by rw [hn.out]; exact hij.2
  have hn4 : n ≤ 4096 := by rw [hn.out]; exact HP.out.2.2.1
  have hijl := hij.1
  clear hij
  obtain ⟨B, hB, HJ⟩ : ∃ B, ((A = none ∧ B = none ∧ i = j) ∨ (∃ g, A = some ⟨g, 0, none⟩ ∧ B = if j = i then some ⟨g, 0, none⟩ else some ⟨g, i * 2, none⟩)) ∧ Joins w4 (.slice B (j - i) (j - i)) s H := by
    have key := fun B hB => joins_any (B := B) HR4.out.row i j hijl hjn hn4 s hokm hB
    rw [hHe] at key
    rcases HR4.out.row.shape with ⟨hv, he⟩ | ⟨g, cap, cur, hv, _⟩
    · injection hv with h1 h2 h3
      have hB1 : (A = none ∧ (none : Option Addr) = none ∧ i = j) ∨ (∃ g, A = some ⟨g, 0, none⟩ ∧ ((i = j ∧ (none : Option Addr) = some ⟨g, 0, none⟩) ∨ (i < j ∧ (none : Option Addr) = some ⟨g, i * 2, none⟩))) := .inl ⟨h1, rfl, by omega⟩
      exact ⟨none, .inl ⟨h1, rfl, by omega⟩, key none hB1⟩
    · injection hv with h1 h2 h3
      refine ⟨if j = i then some ⟨g, 0, none⟩ else some ⟨g, i * 2, none⟩, .inr ⟨g, h1, rfl⟩, key _ (.inr ⟨g, h1, ?_⟩)⟩
      rcases Nat.eq_or_lt_of_le hijl with e | e
      · exact .inl ⟨e, if_pos e.symm⟩
      · exact .inr ⟨e, if_neg (by omega)⟩
  have HJ := Lib.hid HJ
  clear hokm hHe
  go_upto_region 7 with fail
  go_cut [10] (fun s10 wx => ∃ Q : Nat, s10 = .pointer (some ⟨Q, 0, none⟩) ∧ wx.cell? ⟨Q, 0, none⟩ = some (.int .i64 H.1) ∧ wx.cell? ⟨Q, 1, none⟩ = some (.int .i64 H.2) ∧ Hid (Below w4.heap.size w4 wx))
  case first =>
    rcases hB with ⟨rfl, rfl, rfl⟩ | ⟨g, rfl, rfl⟩
    · obtain ⟨rfl, rfl⟩ : n = 0 ∧ c = 0 := by
        rcases HP.out.1.row.shape with ⟨hv, _⟩ | ⟨g, cap, cur, hv, _⟩
        · injection hv with h1 h2 h3; exact ⟨h2, h3⟩
        · injection hv with h1; cases h1
      obtain rfl : i = 0 := by omega
      have n1 : b < w4.heap.size := World.block_lt_of_cell? w4 _ hb0
      have n2 : w.heap.size < w4.heap.size := World.block_lt_of_cell? w4 _ x0
      have m1 := Nat.ne_of_lt n1
      have m2 := Nat.ne_of_lt n2
      have m3 := Nat.ne_of_gt n1
      have m4 := Nat.ne_of_gt n2
      have m11 : ¬ w4.heap.size + 1 = b := by omega
      have m12 : ¬ w4.heap.size + 1 = w.heap.size := by omega
      have m13 : ¬ b = w4.heap.size + 1 := by omega
      have m14 : ¬ w.heap.size = w4.heap.size + 1 := by omega
      go_region_held3 (fun w' => w'.cell? ⟨b, 0, none⟩ = some (.slice none 0 0) ∧ w'.cell? ⟨w.heap.size, 0, none⟩ = some (.int .i64 s.1) ∧ w'.cell? ⟨w.heap.size, 1, none⟩ = some (.int .i64 s.2)) (go_keep) (first
        | (refine joins_step (q := w4.heap.size) HJ.out rfl rfl rfl (by first | (simp [Act.eval, Act.put]; done) | fail "no") (by first | (simp [Act.eval, Act.put]; done) | fail "no") (by (repeat (with_reducible first | exact Below.refl _ _ | assumption | (refine Below.setCell ?_ (by first | (simp; done) | (simp; omega) | omega) _) | (refine Below.alloc ?_ (by first | (simp; done) | (simp; omega) | omega) _) | refine Below.drew ?_ | refine Below.drewN_ ?_ _ | (refine Below.then_ ?_ (by with_reducible assumption))))) (by first | (go_simp; done) | fail "no") (by first | (go_simp; done) | fail "no") ?_; intro W5 A5 N5 c5 hbe hcalls; have k0 := Below.cell' hbe (p := ⟨b, 0, none⟩) (v := .slice none 0 0) (by first | (go_simp; done) | fail "no"); have k1 := Below.cell' hbe (p := ⟨w.heap.size, 0, none⟩) (v := .int .i64 s.1) (by first | (go_simp; done) | fail "no"); have k2 := Below.cell' hbe (p := ⟨w.heap.size, 1, none⟩) (v := .int .i64 s.2) (by first | (go_simp; done) | fail "no"); (try (have ma0 := Below.cell' hbe (p := ⟨w4.heap.size, 0, none⟩) (v := .int .i64 0) (by first | (go_simp; done) | fail "no"))); (try (have ma1 := Below.cell' hbe (p := ⟨w4.heap.size, 1, none⟩) (v := .int .i64 0) (by first | (go_simp; done) | fail "no"))); (try (have maf := Below.frozen' hbe (p := ⟨w4.heap.size, 0, none⟩) (v := .int .i64 0) (by first | (go_simp; done) | fail "no") (by first | (go_simp; done) | fail "no"))); (try (have mag := Below.frozen' hbe (p := ⟨w4.heap.size, 1, none⟩) (v := .int .i64 0) (by first | (go_simp; done) | fail "no") (by first | (go_simp; done) | fail "no"))); (try (have mb0 := Below.cell' hbe (p := ⟨(w4.heap.size + 1), 0, none⟩) (v := .int .i64 0) (by first | (go_simp; done) | fail "no"))); (try (have mb1 := Below.cell' hbe (p := ⟨(w4.heap.size + 1), 1, none⟩) (v := .int .i64 0) (by first | (go_simp; done) | fail "no"))); (try (have mbf := Below.frozen' hbe (p := ⟨(w4.heap.size + 1), 0, none⟩) (v := .int .i64 0) (by first | (go_simp; done) | fail "no") (by first | (go_simp; done) | fail "no"))); (try (have mbg := Below.frozen' hbe (p := ⟨(w4.heap.size + 1), 1, none⟩) (v := .int .i64 0) (by first | (go_simp; done) | fail "no") (by first | (go_simp; done) | fail "no"))); have hz5 : w4.heap.size ≤ W5.heap.size := (by have := hbe.size; (try simp at this); omega); have n5 : b < W5.heap.size := World.block_lt_of_cell? W5 _ k0; have n6 : w.heap.size < W5.heap.size := World.block_lt_of_cell? W5 _ k1; have m5 := Nat.ne_of_lt n5; have m6 := Nat.ne_of_lt n6; have m7 := Nat.ne_of_gt n5; have m8 := Nat.ne_of_gt n6)
        | (refine joins_step (q := w4.heap.size + 1) HJ.out rfl rfl rfl (by first | (simp [Act.eval, Act.put]; done) | fail "no") (by first | (simp [Act.eval, Act.put]; done) | fail "no") (by (repeat (with_reducible first | exact Below.refl _ _ | assumption | (refine Below.setCell ?_ (by first | (simp; done) | (simp; omega) | omega) _) | (refine Below.alloc ?_ (by first | (simp; done) | (simp; omega) | omega) _) | refine Below.drew ?_ | refine Below.drewN_ ?_ _ | (refine Below.then_ ?_ (by with_reducible assumption))))) (by first | (go_simp; done) | fail "no") (by first | (go_simp; done) | fail "no") ?_; intro W5 A5 N5 c5 hbe hcalls; have k0 := Below.cell' hbe (p := ⟨b, 0, none⟩) (v := .slice none 0 0) (by first | (go_simp; done) | fail "no"); have k1 := Below.cell' hbe (p := ⟨w.heap.size, 0, none⟩) (v := .int .i64 s.1) (by first | (go_simp; done) | fail "no"); have k2 := Below.cell' hbe (p := ⟨w.heap.size, 1, none⟩) (v := .int .i64 s.2) (by first | (go_simp; done) | fail "no"); (try (have ma0 := Below.cell' hbe (p := ⟨w4.heap.size, 0, none⟩) (v := .int .i64 0) (by first | (go_simp; done) | fail "no"))); (try (have ma1 := Below.cell' hbe (p := ⟨w4.heap.size, 1, none⟩) (v := .int .i64 0) (by first | (go_simp; done) | fail "no"))); (try (have maf := Below.frozen' hbe (p := ⟨w4.heap.size, 0, none⟩) (v := .int .i64 0) (by first | (go_simp; done) | fail "no") (by first | (go_simp; done) | fail "no"))); (try (have mag := Below.frozen' hbe (p := ⟨w4.heap.size, 1, none⟩) (v := .int .i64 0) (by first | (go_simp; done) | fail "no") (by first | (go_simp; done) | fail "no"))); (try (have mb0 := Below.cell' hbe (p := ⟨(w4.heap.size + 1), 0, none⟩) (v := .int .i64 0) (by first | (go_simp; done) | fail "no"))); (try (have mb1 := Below.cell' hbe (p := ⟨(w4.heap.size + 1), 1, none⟩) (v := .int .i64 0) (by first | (go_simp; done) | fail "no"))); (try (have mbf := Below.frozen' hbe (p := ⟨(w4.heap.size + 1), 0, none⟩) (v := .int .i64 0) (by first | (go_simp; done) | fail "no") (by first | (go_simp; done) | fail "no"))); (try (have mbg := Below.frozen' hbe (p := ⟨(w4.heap.size + 1), 1, none⟩) (v := .int .i64 0) (by first | (go_simp; done) | fail "no") (by first | (go_simp; done) | fail "no"))); have hz5 : w4.heap.size ≤ W5.heap.size := (by have := hbe.size; (try simp at this); omega); have n5 : b < W5.heap.size := World.block_lt_of_cell? W5 _ k0; have n6 : w.heap.size < W5.heap.size := World.block_lt_of_cell? W5 _ k1; have m5 := Nat.ne_of_lt n5; have m6 := Nat.ne_of_lt n6; have m7 := Nat.ne_of_gt n5; have m8 := Nat.ne_of_gt n6)
        | (go_at_call 55; with_reducible refine (hcalls.out _ (by (repeat (with_reducible first | exact Below.refl _ _ | assumption | (refine Below.setCell ?_ (by first | (simp; done) | (simp; omega) | omega) _) | (refine Below.alloc ?_ (by first | (simp; done) | (simp; omega) | omega) _) | refine Below.drew ?_ | refine Below.drewN_ ?_ _ | (refine Below.then_ ?_ (by with_reducible assumption)))))).mono ?_; rintro e W6 ⟨rfl, hb6⟩; dsimp only; have k3 := Below.cell' hb6 (p := ⟨b, 0, none⟩) (v := .slice none 0 0) (by go_simp); have k4 := Below.cell' hb6 (p := ⟨w.heap.size, 0, none⟩) (v := .int .i64 s.1) (by go_simp); have k5 := Below.cell' hb6 (p := ⟨w.heap.size, 1, none⟩) (v := .int .i64 s.2) (by go_simp); (try (have mc0 := Below.cell' hb6 (p := ⟨w4.heap.size, 0, none⟩) (v := .int .i64 0) (by first | (go_simp; done) | fail "no"))); (try (have mc1 := Below.cell' hb6 (p := ⟨w4.heap.size, 1, none⟩) (v := .int .i64 0) (by first | (go_simp; done) | fail "no"))); (try (have mcf := Below.frozen' hb6 (p := ⟨w4.heap.size, 0, none⟩) (v := .int .i64 0) (by first | (go_simp; done) | fail "no") (by first | (go_simp; done) | fail "no"))); (try (have mcg := Below.frozen' hb6 (p := ⟨w4.heap.size, 1, none⟩) (v := .int .i64 0) (by first | (go_simp; done) | fail "no") (by first | (go_simp; done) | fail "no"))); (try (have md0 := Below.cell' hb6 (p := ⟨(w4.heap.size + 1), 0, none⟩) (v := .int .i64 0) (by first | (go_simp; done) | fail "no"))); (try (have md1 := Below.cell' hb6 (p := ⟨(w4.heap.size + 1), 1, none⟩) (v := .int .i64 0) (by first | (go_simp; done) | fail "no"))); (try (have mdf := Below.frozen' hb6 (p := ⟨(w4.heap.size + 1), 0, none⟩) (v := .int .i64 0) (by first | (go_simp; done) | fail "no") (by first | (go_simp; done) | fail "no"))); (try (have mdg := Below.frozen' hb6 (p := ⟨(w4.heap.size + 1), 1, none⟩) (v := .int .i64 0) (by first | (go_simp; done) | fail "no") (by first | (go_simp; done) | fail "no"))); (try (have me0 := Below.cell' hb6 (p := ⟨W5.heap.size, 0, none⟩) (v := .int .i64 0) (by first | (go_simp; done) | fail "no"))); (try (have me1 := Below.cell' hb6 (p := ⟨W5.heap.size, 1, none⟩) (v := .int .i64 0) (by first | (go_simp; done) | fail "no"))); (try (have mef := Below.frozen' hb6 (p := ⟨W5.heap.size, 0, none⟩) (v := .int .i64 0) (by first | (go_simp; done) | fail "no") (by first | (go_simp; done) | fail "no"))); (try (have meg := Below.frozen' hb6 (p := ⟨W5.heap.size, 1, none⟩) (v := .int .i64 0) (by first | (go_simp; done) | fail "no") (by first | (go_simp; done) | fail "no"))); have hz6 : w4.heap.size ≤ W6.heap.size := (by have := hb6.size; (try simp at this); omega); have n7 : b < W6.heap.size := World.block_lt_of_cell? W6 _ k3; have n8 : w.heap.size < W6.heap.size := World.block_lt_of_cell? W6 _ k4; have m15 := Nat.ne_of_lt n7; have m16 := Nat.ne_of_lt n8; have m17 := Nat.ne_of_gt n7; have m18 := Nat.ne_of_gt n8))
      all_goals (go_wp2_with fail; go_meet; refine ⟨_, rfl, by go_simp, by go_simp, show Below _ _ _ from by (repeat (with_reducible first | exact Below.refl _ _ | assumption | (refine Below.setCell ?_ (by first | (simp; done) | (simp; omega) | omega) _) | (refine Below.alloc ?_ (by first | (simp; done) | (simp; omega) | omega) _) | refine Below.drew ?_ | refine Below.drewN_ ?_ _ | (refine Below.then_ ?_ (by with_reducible assumption))))⟩)
    · have n1 : b < w4.heap.size := World.block_lt_of_cell? w4 _ hb0
      have n2 : w.heap.size < w4.heap.size := World.block_lt_of_cell? w4 _ x0
      have m1 := Nat.ne_of_lt n1
      have m2 := Nat.ne_of_lt n2
      have m3 := Nat.ne_of_gt n1
      have m4 := Nat.ne_of_gt n2
      have m11 : ¬ w4.heap.size + 1 = b := by omega
      have m12 : ¬ w4.heap.size + 1 = w.heap.size := by omega
      have m13 : ¬ b = w4.heap.size + 1 := by omega
      have m14 : ¬ w.heap.size = w4.heap.size + 1 := by omega
      have g1 : (0 : Int) ≤ i := by omega
      have g2 : (i : Int) ≤ j := by omega
      have g3 : (j : Int) ≤ c := by omega
      have g4 : j ≤ c := by omega
      rcases Decidable.em (j = i) with rfl | hji
      all_goals (try rw [if_neg hji] at HJ)
      all_goals go_region_held3 (fun w' => w'.cell? ⟨b, 0, none⟩ = some (.slice (some ⟨g, 0, none⟩) n c) ∧ w'.cell? ⟨w.heap.size, 0, none⟩ = some (.int .i64 s.1) ∧ w'.cell? ⟨w.heap.size, 1, none⟩ = some (.int .i64 s.2)) (go_keep) (first
        | (refine joins_step (q := w4.heap.size) HJ.out rfl rfl rfl (by first | (simp [Act.eval, Act.put]; done) | fail "no") (by first | (simp [Act.eval, Act.put]; done) | fail "no") (by (repeat (with_reducible first | exact Below.refl _ _ | assumption | (refine Below.setCell ?_ (by first | (simp; done) | (simp; omega) | omega) _) | (refine Below.alloc ?_ (by first | (simp; done) | (simp; omega) | omega) _) | refine Below.drew ?_ | refine Below.drewN_ ?_ _ | (refine Below.then_ ?_ (by with_reducible assumption))))) (by first | (go_simp; done) | fail "no") (by first | (go_simp; done) | fail "no") ?_; intro W5 A5 N5 c5 hbe hcalls; have k0 := Below.cell' hbe (p := ⟨b, 0, none⟩) (v := .slice (some ⟨g, 0, none⟩) n c) (by first | (go_simp; done) | fail "no"); have k1 := Below.cell' hbe (p := ⟨w.heap.size, 0, none⟩) (v := .int .i64 s.1) (by first | (go_simp; done) | fail "no"); have k2 := Below.cell' hbe (p := ⟨w.heap.size, 1, none⟩) (v := .int .i64 s.2) (by first | (go_simp; done) | fail "no"); (try (have ma0 := Below.cell' hbe (p := ⟨w4.heap.size, 0, none⟩) (v := .int .i64 0) (by first | (go_simp; done) | fail "no"))); (try (have ma1 := Below.cell' hbe (p := ⟨w4.heap.size, 1, none⟩) (v := .int .i64 0) (by first | (go_simp; done) | fail "no"))); (try (have maf := Below.frozen' hbe (p := ⟨w4.heap.size, 0, none⟩) (v := .int .i64 0) (by first | (go_simp; done) | fail "no") (by first | (go_simp; done) | fail "no"))); (try (have mag := Below.frozen' hbe (p := ⟨w4.heap.size, 1, none⟩) (v := .int .i64 0) (by first | (go_simp; done) | fail "no") (by first | (go_simp; done) | fail "no"))); (try (have mb0 := Below.cell' hbe (p := ⟨(w4.heap.size + 1), 0, none⟩) (v := .int .i64 0) (by first | (go_simp; done) | fail "no"))); (try (have mb1 := Below.cell' hbe (p := ⟨(w4.heap.size + 1), 1, none⟩) (v := .int .i64 0) (by first | (go_simp; done) | fail "no"))); (try (have mbf := Below.frozen' hbe (p := ⟨(w4.heap.size + 1), 0, none⟩) (v := .int .i64 0) (by first | (go_simp; done) | fail "no") (by first | (go_simp; done) | fail "no"))); (try (have mbg := Below.frozen' hbe (p := ⟨(w4.heap.size + 1), 1, none⟩) (v := .int .i64 0) (by first | (go_simp; done) | fail "no") (by first | (go_simp; done) | fail "no"))); have hz5 : w4.heap.size ≤ W5.heap.size := (by have := hbe.size; (try simp at this); omega); have n5 : b < W5.heap.size := World.block_lt_of_cell? W5 _ k0; have n6 : w.heap.size < W5.heap.size := World.block_lt_of_cell? W5 _ k1; have m5 := Nat.ne_of_lt n5; have m6 := Nat.ne_of_lt n6; have m7 := Nat.ne_of_gt n5; have m8 := Nat.ne_of_gt n6)
        | (refine joins_step (q := w4.heap.size + 1) HJ.out rfl rfl rfl (by first | (simp [Act.eval, Act.put]; done) | fail "no") (by first | (simp [Act.eval, Act.put]; done) | fail "no") (by (repeat (with_reducible first | exact Below.refl _ _ | assumption | (refine Below.setCell ?_ (by first | (simp; done) | (simp; omega) | omega) _) | (refine Below.alloc ?_ (by first | (simp; done) | (simp; omega) | omega) _) | refine Below.drew ?_ | refine Below.drewN_ ?_ _ | (refine Below.then_ ?_ (by with_reducible assumption))))) (by first | (go_simp; done) | fail "no") (by first | (go_simp; done) | fail "no") ?_; intro W5 A5 N5 c5 hbe hcalls; have k0 := Below.cell' hbe (p := ⟨b, 0, none⟩) (v := .slice (some ⟨g, 0, none⟩) n c) (by first | (go_simp; done) | fail "no"); have k1 := Below.cell' hbe (p := ⟨w.heap.size, 0, none⟩) (v := .int .i64 s.1) (by first | (go_simp; done) | fail "no"); have k2 := Below.cell' hbe (p := ⟨w.heap.size, 1, none⟩) (v := .int .i64 s.2) (by first | (go_simp; done) | fail "no"); (try (have ma0 := Below.cell' hbe (p := ⟨w4.heap.size, 0, none⟩) (v := .int .i64 0) (by first | (go_simp; done) | fail "no"))); (try (have ma1 := Below.cell' hbe (p := ⟨w4.heap.size, 1, none⟩) (v := .int .i64 0) (by first | (go_simp; done) | fail "no"))); (try (have maf := Below.frozen' hbe (p := ⟨w4.heap.size, 0, none⟩) (v := .int .i64 0) (by first | (go_simp; done) | fail "no") (by first | (go_simp; done) | fail "no"))); (try (have mag := Below.frozen' hbe (p := ⟨w4.heap.size, 1, none⟩) (v := .int .i64 0) (by first | (go_simp; done) | fail "no") (by first | (go_simp; done) | fail "no"))); (try (have mb0 := Below.cell' hbe (p := ⟨(w4.heap.size + 1), 0, none⟩) (v := .int .i64 0) (by first | (go_simp; done) | fail "no"))); (try (have mb1 := Below.cell' hbe (p := ⟨(w4.heap.size + 1), 1, none⟩) (v := .int .i64 0) (by first | (go_simp; done) | fail "no"))); (try (have mbf := Below.frozen' hbe (p := ⟨(w4.heap.size + 1), 0, none⟩) (v := .int .i64 0) (by first | (go_simp; done) | fail "no") (by first | (go_simp; done) | fail "no"))); (try (have mbg := Below.frozen' hbe (p := ⟨(w4.heap.size + 1), 1, none⟩) (v := .int .i64 0) (by first | (go_simp; done) | fail "no") (by first | (go_simp; done) | fail "no"))); have hz5 : w4.heap.size ≤ W5.heap.size := (by have := hbe.size; (try simp at this); omega); have n5 : b < W5.heap.size := World.block_lt_of_cell? W5 _ k0; have n6 : w.heap.size < W5.heap.size := World.block_lt_of_cell? W5 _ k1; have m5 := Nat.ne_of_lt n5; have m6 := Nat.ne_of_lt n6; have m7 := Nat.ne_of_gt n5; have m8 := Nat.ne_of_gt n6)
        | (go_at_call 55; with_reducible refine (hcalls.out _ (by (repeat (with_reducible first | exact Below.refl _ _ | assumption | (refine Below.setCell ?_ (by first | (simp; done) | (simp; omega) | omega) _) | (refine Below.alloc ?_ (by first | (simp; done) | (simp; omega) | omega) _) | refine Below.drew ?_ | refine Below.drewN_ ?_ _ | (refine Below.then_ ?_ (by with_reducible assumption)))))).mono ?_; rintro e W6 ⟨rfl, hb6⟩; dsimp only; have k3 := Below.cell' hb6 (p := ⟨b, 0, none⟩) (v := .slice (some ⟨g, 0, none⟩) n c) (by go_simp); have k4 := Below.cell' hb6 (p := ⟨w.heap.size, 0, none⟩) (v := .int .i64 s.1) (by go_simp); have k5 := Below.cell' hb6 (p := ⟨w.heap.size, 1, none⟩) (v := .int .i64 s.2) (by go_simp); (try (have mc0 := Below.cell' hb6 (p := ⟨w4.heap.size, 0, none⟩) (v := .int .i64 0) (by first | (go_simp; done) | fail "no"))); (try (have mc1 := Below.cell' hb6 (p := ⟨w4.heap.size, 1, none⟩) (v := .int .i64 0) (by first | (go_simp; done) | fail "no"))); (try (have mcf := Below.frozen' hb6 (p := ⟨w4.heap.size, 0, none⟩) (v := .int .i64 0) (by first | (go_simp; done) | fail "no") (by first | (go_simp; done) | fail "no"))); (try (have mcg := Below.frozen' hb6 (p := ⟨w4.heap.size, 1, none⟩) (v := .int .i64 0) (by first | (go_simp; done) | fail "no") (by first | (go_simp; done) | fail "no"))); (try (have md0 := Below.cell' hb6 (p := ⟨(w4.heap.size + 1), 0, none⟩) (v := .int .i64 0) (by first | (go_simp; done) | fail "no"))); (try (have md1 := Below.cell' hb6 (p := ⟨(w4.heap.size + 1), 1, none⟩) (v := .int .i64 0) (by first | (go_simp; done) | fail "no"))); (try (have mdf := Below.frozen' hb6 (p := ⟨(w4.heap.size + 1), 0, none⟩) (v := .int .i64 0) (by first | (go_simp; done) | fail "no") (by first | (go_simp; done) | fail "no"))); (try (have mdg := Below.frozen' hb6 (p := ⟨(w4.heap.size + 1), 1, none⟩) (v := .int .i64 0) (by first | (go_simp; done) | fail "no") (by first | (go_simp; done) | fail "no"))); (try (have me0 := Below.cell' hb6 (p := ⟨W5.heap.size, 0, none⟩) (v := .int .i64 0) (by first | (go_simp; done) | fail "no"))); (try (have me1 := Below.cell' hb6 (p := ⟨W5.heap.size, 1, none⟩) (v := .int .i64 0) (by first | (go_simp; done) | fail "no"))); (try (have mef := Below.frozen' hb6 (p := ⟨W5.heap.size, 0, none⟩) (v := .int .i64 0) (by first | (go_simp; done) | fail "no") (by first | (go_simp; done) | fail "no"))); (try (have meg := Below.frozen' hb6 (p := ⟨W5.heap.size, 1, none⟩) (v := .int .i64 0) (by first | (go_simp; done) | fail "no") (by first | (go_simp; done) | fail "no"))); have hz6 : w4.heap.size ≤ W6.heap.size := (by have := hb6.size; (try simp at this); omega); have n7 : b < W6.heap.size := World.block_lt_of_cell? W6 _ k3; have n8 : w.heap.size < W6.heap.size := World.block_lt_of_cell? W6 _ k4; have m15 := Nat.ne_of_lt n7; have m16 := Nat.ne_of_lt n8; have m17 := Nat.ne_of_gt n7; have m18 := Nat.ne_of_gt n8))
      all_goals (go_wp2_with fail; go_meet; refine ⟨_, rfl, by go_simp, by go_simp, show Below _ _ _ from by (repeat (with_reducible first | exact Below.refl _ _ | assumption | (refine Below.setCell ?_ (by first | (simp; done) | (simp; omega) | omega) _) | (refine Below.alloc ?_ (by first | (simp; done) | (simp; omega) | omega) _) | refine Below.drew ?_ | refine Below.drewN_ ?_ _ | (refine Below.then_ ?_ (by with_reducible assumption))))⟩)
  case rest =>
    obtain ⟨Q, rfl, q0, q1, HB5⟩ := hcut
    have HR5 := Lib.hid (HR4.out.below HB5.out)
    have z0 := Below.cell' HB5.out x0
    have z1 := Below.cell' HB5.out x1
    clear x0 x1 xf xg hb0 hB
    have hwb := within_bounds HP.out.2.1 s
    have hsl : spLen s.1 s.2 = s.2 - s.1 := lenOf_may HP.out.2.2.2.1
    have hwr : IntKind.i64.wrap (spLen s.1 s.2 - within l s) = spLen s.1 s.2 - within l s := by
      have := HP.out.2.2.2.1
      unfold Okay at this
      rw [IntKind.wrap_i64, hsl]; omega
    have HWR := Lib.hid (And.intro hwr (And.intro hwb hsl)); clear hwr hwb hsl
    go_wp2_with fail
    have HR6 := HR5.out.below (Below.one wc (.cells #[.int .i64 H.1, .int .i64 H.2] 24))
    have hlen : (addL l s).length = l.length - (j - i) + 1 := by
      unfold addL; rw [hI.out, hJ.out]; simp; have := hn.out; omega
    have hll := HP.out.2.2.1
    by_cases hfit : l.length - (j - i) + 1 ≤ 4096
    · have hrep := replace_le A n c 1 1 i j (some ⟨wc.heap.size, 0, none⟩) l [H] _ HR6.row hijl hjn rfl (fun h => by omega)
        (rd_one (by go_simp) (by go_simp)) (fun ad e => by
          injection e with e
          subst e
          refine ⟨⟨_, _, World.alloc_heap_new wc _⟩, fun h => ?_⟩
          have := HR5.out.row.lt h.symm
          exact Nat.lt_irrefl _ this) (by omega)
      have hL : l.take i ++ [H] ++ l.drop j = addL l s := by unfold addL; rw [hI.out, hJ.out, hH.out]
      go_at_call 56
      with_reducible refine (lay_ok HR6 i j 1 1 (some ⟨wc.heap.size, 0, none⟩) [H] hll hijl (by have := hn.out; omega) (by omega) hfit hrep).mono ?_
      rintro e w6 ⟨rfl, hpost⟩
      rw [hL] at hpost
      obtain ⟨v', hIs, hch, hown⟩ := hpost
      have hne0 : ¬ (w.heap.size = b ∨ some w.heap.size = (Value.slice A n c).ownBlock) := by
        rintro (e | e)
        · have := HP.out.1.lt; omega
        · exact Nat.lt_irrefl _ (HP.out.1.row.lt e.symm)
      have t0 := hch.cell (p := ⟨w.heap.size, 0, none⟩) (v := .int .i64 s.1) (Below.cell' (Below.one wc _) z0) hne0
      have t1 := hch.cell (p := ⟨w.heap.size, 1, none⟩) (v := .int .i64 s.2) (Below.cell' (Below.one wc _) z1) hne0
      have HF := Lib.hid (And.intro hIs (And.intro hch (And.intro hown (And.intro hlen hfit))))
      clear hIs hch hown hlen hfit hrep hL z0 z1 q0 q1 hne0 HR6
      go_wp2_with fail
      go_at_call 57
      refine (len_any s.1 s.2 _).mono ?_
      rintro e w7 ⟨rfl, hb7⟩
      obtain ⟨hwr, hwb, hsl⟩ := HWR.out
      have HB7 := Lib.hid hb7
      clear hb7 hwb hsl
      go_wp2_with fail
      refine bodyPost_ret (v := .tuple #[(.int .i64 (spLen s.1 s.2 - within l s)), (.int .i64 0)]) (by simp [results, Try.results15, go_sem]) rfl ?_
      obtain ⟨hIs, hch, hown, hlen, hfit⟩ := HF.out
      unfold AddPost
      rw [if_pos (by omega)]
      refine ⟨rfl, v', hIs.below HB7.out, ?_, ?_⟩
      · refine (Chg.of_below (M := fun k => k = b ∨ some k = (Value.slice A n c).ownBlock) (Below.then_ HB4.out (Below.then_ HB5.out (Below.one _ _)))).trans (hch.trans (Chg.of_below (M := fun k => k = b ∨ some k = (Value.slice A n c).ownBlock) HB7.out) (fun _ _ h => h)) (fun _ _ h => h)
      · rcases hown with h | ⟨g, h, hg⟩
        · exact .inl h
        · have h1 := HB4.out.size
          have h2 := HB5.out.size
          rw [World.size_alloc] at hg
          exact .inr ⟨g, h, by omega⟩
    · go_at_call 56
      with_reducible refine (lay_full HR6 i j 1 1 (some ⟨wc.heap.size, 0, none⟩) hll hijl (by have := hn.out; omega) (by omega) (by omega)).mono ?_
      rintro e w6 ⟨rfl, rfl⟩
      have HF := Lib.hid (And.intro hlen hfit)
      clear hlen hfit HR6 q0 q1
      go_wp2_with fail
      refine bodyPost_ret (v := .tuple #[.int .i64 0, .int .i64 4]) (by simp [results, Try.results15, go_sem]) rfl ?_
      unfold AddPost
      rw [if_neg (by have := HF.out.1; have := HF.out.2; omega)]
      exact ⟨rfl, Below.then_ HB4.out (Below.then_ HB5.out (Below.one _ _))⟩
end Go.Proofs.Ytcifbcdjkofomaa
