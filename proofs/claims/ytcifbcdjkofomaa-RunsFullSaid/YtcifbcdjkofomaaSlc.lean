/-
  What the builtins copy, append, clear do to arrays of spans. Conditions: none.
-/
import Derived.Test.YtcifbcdjkofomaaRow
import Derived.Lib.Overlaps
import Derived.Lib.AppendZerosOnto
import Derived.Maps.AppendAt
namespace Go.Proofs.Ytcifbcdjkofomaa
open Go.RowKit
set_option linter.unusedVariables false
set_option linter.unusedSimpArgs false

theorem info24 : (Try.prog.info? 24).map (fun i => (i.zero, i.size, i.bytes)) = some (some (.agg #[.int .i64 0, .int .i64 0]), 2, 16) := by kernel_rfl

/-- Block g is an array of spans that holds cur. -/
def ArrAt (w : World) (g : Nat) (cur : List Value) : Prop := w.heap[g]? = some (.cells cur.toArray 24 (0, 0))
theorem ArrAt.out {w : World} {g : Nat} {cur : List Value} (h : ArrAt w g cur) : w.heap[g]? = some (.cells cur.toArray 24 (0, 0)) := h
theorem ArrAt.cell {w : World} {g : Nat} {cur : List Value} (h : ArrAt w g cur) (j : Nat) : w.cell? ⟨g, j, none⟩ = cur[j]? := by
  rw [cell_of_at h]; simp
theorem ArrAt.chg {w w' : World} {M : Nat → Prop} {g : Nat} {cur : List Value} (h : ArrAt w g cur) (hc : Chg M w w') (hn : ¬ M g) : ArrAt w' g cur := hc.at_ h hn
theorem ArrAt.below {w w' : World} {g : Nat} {cur : List Value} (h : ArrAt w g cur) (hb : Below w.heap.size w w') : ArrAt w' g cur := Below.at' hb h
theorem SpRow.arr {w : World} {g n cap : Nat} {l : List Sp} (h : SpRow w (.slice (some ⟨g, 0, none⟩) n cap) l) :
    ∃ cur, ArrAt w g cur ∧ cur.length = cap * 2 ∧ cur.take (n * 2) = cellsOf l ∧ n = l.length ∧ n ≤ cap ∧ cap ≤ maxLen := by
  rcases h.shape with ⟨hv, _⟩ | ⟨g', cap', cur, hv, hh, h1, h2, h3, h4⟩
  · cases hv
  · injection hv with ha hn hc
    injection ha with ha; injection ha with ha
    subst ha; subst hc; subst hn
    exact ⟨cur.toList, by simpa [ArrAt] using hh, by simpa using h3, h4, rfl, h1, h2⟩
theorem SpRow.mk_arr {w : World} {g cap : Nat} {l : List Sp} {cur : List Value} (h : ArrAt w g cur) (hl : cur.length = cap * 2) (ht : cur.take (l.length * 2) = cellsOf l) (h1 : l.length ≤ cap) (h2 : cap ≤ maxLen) :
    SpRow w (.slice (some ⟨g, 0, none⟩) l.length cap) l :=
  ⟨cellsOf_length l, .inr ⟨g, cap, cur.toArray, rfl, Nat.zero_le _, h, h1, h2, by simpa using hl, by simpa using ht⟩⟩

/-- cs laid over L from place off on. -/
def lay (L : List Value) (off : Nat) (cs : List Value) : List Value := L.take off ++ (cs ++ L.drop (off + cs.length))
theorem lay_nil (L : List Value) (off : Nat) : lay L off [] = L := by simp [lay]
theorem lay_length (L : List Value) (off : Nat) (cs : List Value) (h : off + cs.length ≤ L.length) : (lay L off cs).length = L.length := by simp [lay]; omega
theorem chg_setRow (w : World) (g : Nat) (cs : Array Value) : Chg (fun k => k = g) w (w.setRow g cs) :=
  ⟨rfl, rfl, rfl, by simp [World.setRow], fun k _ hn => setRow_other w g k cs hn⟩

/-! ### copy -/
theorem run_copy_sp (w : World) (ty g o dLen dCap : Nat) (ad : Addr) (sLen sCap : Nat) (cur : List Value) (cs : List Value)
    (hg : ArrAt w g cur) (hn : cs.length = Nat.min sLen dLen * 2) (hsrc : ∀ j v, cs[j]? = some v → w.cell? (ad.add j) = some v) (hfit : o + cs.length ≤ cur.length) (h1 : ∀ v ∈ cs, v.oneCell' = true) :
    (Builtin.copy_ #[22, 22] ty #[.slice (some ⟨g, o, none⟩) dLen dCap, .slice (some ad) sLen sCap]).run Try.prog w = .ok (goInt (Nat.min sLen dLen : Nat)) (w.setRow g (lay cur o cs).toArray) := by
  obtain ⟨i0, hi, hzz⟩ := Option.map_eq_some_iff.1 info24
  simp only [Prod.mk.injEq] at hzz
  have hl := run_loadCells_list (P := Try.prog) w ad cs hsrc
  have hst := run_storeCells_at Try.prog g o 24 cs 0 cur.toArray w hg.out (by simpa using hfit) h1
  simp only [Nat.add_zero] at hst
  simp [Builtin.copy_, run_underlying Try.underlying22, Builtin.lenOf, Builtin.firstCells, sizeOf, typeInfo, hi, hzz.2.1, ← hn, hl, hst, lay]
theorem run_copy_sp0 (w : World) (ty : Nat) (dp sp : Option Addr) (dLen dCap sLen sCap : Nat) (hn : Nat.min sLen dLen = 0) :
    (Builtin.copy_ #[22, 22] ty #[.slice dp dLen dCap, .slice sp sLen sCap]).run Try.prog w = .ok (goInt 0) w := by
  obtain ⟨i0, hi, hzz⟩ := Option.map_eq_some_iff.1 info24
  simp only [Prod.mk.injEq] at hzz
  cases dp <;> cases sp <;> simp [Builtin.copy_, run_underlying Try.underlying22, Builtin.lenOf, Builtin.firstCells, sizeOf, typeInfo, hi, hzz.2.1, hn, storeCells, loadCells, loadCellsFrom]

/-! ### the step of a walk, given the run of its operation -/
section
variable {P : Program} {ops : Array Oper} {rest : List Oper} {o : Oper} {a : Act} {Q : Exit → Act → World → Prop} {w w' : World} {v : Value}
theorem ev_list (hgd : o.guard = none) (hrun : (execOp a.eval o).run P w = .ok (.value v) w') (h : wpList P ops Q rest (a.put o.dst v) w') : wpList P ops Q (o :: rest) a w := by
  refine wpList_plain hgd fun K hK => ?_
  unfold Oper.wp
  rw [hrun]
  exact hK _ _ h
theorem ev_step {K : Act → World → Prop} {E : Prop} (hgd : o.guard = none) (hrun : (execOp a.eval o).run P w = .ok (.value v) w') (h : K (a.put o.dst v) w') :
    if Region.wanted o (yielded ops a.tmps) = true then Oper.wp P o a w K Q else E := by
  have hw : Region.wanted o (yielded ops a.tmps) = true := by simp [Region.wanted, hgd]
  rw [if_pos hw]
  unfold Oper.wp
  rw [hrun]
  exact h
theorem exec_copy {s x : Operand} {t : TypeId} {v1 v2 : Value} (ho : o.op = .call { callee := .builtin .copy, args := #[s, x], argTypes := #[t, t] }) (hs : a.eval s = v1) (hx : a.eval x = v2)
    (hr : (Builtin.copy_ #[t, t] o.type #[v1, v2]).run P w = .ok v w') : (execOp a.eval o).run P w = .ok (.value v) w' := by
  unfold execOp
  simp only [ho, resolve, invoke, builtin, Sem.run_bind, Sem.run_pure, Result.andThen_ok, List.map_toArray, List.map_cons, List.map_nil, hs, hx, hr]
theorem exec_append {s x : Operand} {t u : TypeId} {v1 v2 : Value} (ho : o.op = .call { callee := .builtin .append, args := #[s, x], argTypes := #[t, u] }) (hs : a.eval s = v1) (hx : a.eval x = v2)
    (hr : (Builtin.append_ #[t, u] o.type #[v1, v2]).run P w = .ok v w') : (execOp a.eval o).run P w = .ok (.value v) w' := by
  unfold execOp
  simp only [ho, resolve, invoke, builtin, Sem.run_bind, Sem.run_pure, Result.andThen_ok, List.map_toArray, List.map_cons, List.map_nil, hs, hx, hr]
theorem exec_clear {s : Operand} {t : TypeId} {v1 : Value} (ho : o.op = .call { callee := .builtin .clear, args := #[s], argTypes := #[t] }) (hs : a.eval s = v1)
    (hr : (Builtin.clear_ #[t] o.type #[v1]).run P w = .ok v w') : (execOp a.eval o).run P w = .ok (.value v) w' := by
  unfold execOp
  simp only [ho, resolve, invoke, builtin, Sem.run_bind, Sem.run_pure, Result.andThen_ok, List.map_toArray, List.map_cons, List.map_nil, hs, hr]
end

/-- What stands behind a copy: the world has turned in block g alone. -/
theorem copy_sp (w : World) (dp sp : Option Addr) (dLen dCap sLen sCap g off : Nat) (cur cs : List Value) (hg : ArrAt w g cur) (hn : cs.length = Nat.min sLen dLen * 2)
    (hpos : 0 < cs.length → dp = some ⟨g, off, none⟩ ∧ ∃ ad, sp = some ad ∧ ∀ j v, cs[j]? = some v → w.cell? (ad.add j) = some v) (hfit : off + cs.length ≤ cur.length) (h1 : ∀ v ∈ cs, v.oneCell' = true) :
    ∃ w', (∀ ty, (Builtin.copy_ #[22, 22] ty #[.slice dp dLen dCap, .slice sp sLen sCap]).run Try.prog w = .ok (goInt (Nat.min sLen dLen : Nat)) w') ∧ ArrAt w' g (lay cur off cs) ∧ Chg (fun k => k = g) w w' := by
  by_cases h0 : cs.length = 0
  · have hm : Nat.min sLen dLen = 0 := by omega
    obtain rfl : cs = [] := List.eq_nil_of_length_eq_zero h0
    exact ⟨w, fun ty => by rw [run_copy_sp0 w ty dp sp dLen dCap sLen sCap hm, hm]; rfl, by rw [lay_nil]; exact hg, Chg.refl _ _⟩
  · obtain ⟨rfl, ad, rfl, hsrc⟩ := hpos (by omega)
    exact ⟨_, fun ty => run_copy_sp w ty g off dLen dCap ad sLen sCap cur cs hg hn hsrc hfit h1, by simpa [ArrAt] using setRow_heap w g cur.toArray _ 24 (0, 0) hg, chg_setRow _ _ _⟩

theorem arr_congr {x y : Array Value} (h : x = y) : Obj.cells x 24 (0, 0) = Obj.cells y 24 (0, 0) := by rw [h]
/-- append, where there is room. -/
theorem append_room_sp (w : World) (g i cap m c : Nat) (A : Option Addr) (cur cs : List Value) (hg : ArrAt w g cur) (hl : cs.length = m * 2)
    (hpos : 0 < m → ∃ ad, A = some ad ∧ ∀ j v, cs[j]? = some v → w.cell? (ad.add j) = some v) (h1 : ∀ v ∈ cs, v.oneCell' = true) (hroom : i + m ≤ cap) (hfit : i * 2 + cs.length ≤ cur.length) :
    ∃ w', (∀ ty, (Builtin.append_ #[22, 22] ty #[.slice (some ⟨g, 0, none⟩) i cap, .slice A m c]).run Try.prog w = .ok (.slice (some ⟨g, 0, none⟩) (i + m) cap) w') ∧ ArrAt w' g (lay cur (i * 2) cs) ∧ Chg (fun k => k = g) w w' := by
  obtain ⟨i0, hi, hzz⟩ := Option.map_eq_some_iff.1 info24
  simp only [Prod.mk.injEq] at hzz
  by_cases h0 : m = 0
  · subst h0
    obtain rfl : cs = [] := List.eq_nil_of_length_eq_zero (by simpa using hl)
    refine ⟨w, fun ty => ?_, by rw [lay_nil]; exact hg, Chg.refl _ _⟩
    cases A <;> simp [Builtin.append_, run_underlying Try.underlying22, sizeOf, typeInfo, hi, Builtin.lenOf, Builtin.firstCells, storeCells, loadCells, loadCellsFrom, show i ≤ cap by omega]
  · obtain ⟨ad, rfl, hsrc⟩ := hpos (by omega)
    have hr := fun ty => run_append_room (P := Try.prog) w 22 ty 24 i0 Try.underlying22 hi g i cap cur.toArray hg ad m c cs (by rw [hzz.2.1]; exact hl) hsrc h1 hroom (by rw [hzz.2.1]; simpa using hfit)
    simp only [hzz.2.1] at hr
    refine ⟨_, hr, ?_, chg_setRow _ _ _⟩
    simpa [ArrAt, lay] using setRow_heap w g cur.toArray _ 24 (0, 0) hg

/-- append, where there is no room: a new array. -/
theorem append_grow_sp (w : World) (i cap m c : Nat) (b ad : Addr) (olds cs : List Value) (hlo : olds.length = i * 2) (holds : ∀ j v, olds[j]? = some v → w.cell? (b.add j) = some v)
    (hl : cs.length = m * 2) (hsrc : ∀ j v, cs[j]? = some v → w.cell? (ad.add j) = some v) (hg : cap < i + m) (hbig : (i + m) * 16 ≤ 140737488355328) :
    ∃ w' cap' cur', (∀ ty, (Builtin.append_ #[22, 22] ty #[.slice (some b) i cap, .slice (some ad) m c]).run Try.prog w = .ok (.slice (some ⟨w.heap.size, 0, none⟩) (i + m) cap') w') ∧
      ArrAt w' w.heap.size cur' ∧ cur'.length = cap' * 2 ∧ cur'.take ((i + m) * 2) = olds ++ cs ∧ i + m ≤ cap' ∧ cap' ≤ maxLen ∧ Below w.heap.size w w' := by
  obtain ⟨i0, hi, hzz⟩ := Option.map_eq_some_iff.1 info24
  simp only [Prod.mk.injEq] at hzz
  have hr := fun ty => run_append_grow (P := Try.prog) w 22 ty 24 i0 (.agg #[.int .i64 0, .int .i64 0]) Try.underlying22 hi hzz.1 b i cap olds (by rw [hzz.2.1]; exact hlo) holds ad m c cs (by rw [hzz.2.1]; exact hl) hsrc hg (by omega)
    (by rw [hzz.2.2]; exact growslice_fits (by omega) hbig)
  have hge := grownCap_ge w (i + m) cap 24
  have hcm := grownCap_le_maxLen w (i + m) cap 24 (by unfold maxLen; omega)
  refine ⟨_, _, (olds ++ cs) ++ (Builtin.zeroCells #[.int .i64 0, .int .i64 0] (grownCap w (i + m) cap 24 - (i + m))).toList, hr, ?_, ?_, ?_, hge, hcm, ?_⟩
  · have := heap_alloc_new w.drew (.cells (olds.toArray ++ cs.toArray ++ Builtin.zeroCells (Value.agg #[.int .i64 0, .int .i64 0]).cells (grownCap w (i + m) cap 24 - (i + m))) 24)
    unfold ArrAt
    refine Eq.trans this ?_
    refine congrArg some (arr_congr ?_)
    apply Array.ext'
    simp [Value.cells]
  · have hz : (Builtin.zeroCells #[Value.int .i64 0, .int .i64 0] (grownCap w (i + m) cap 24 - (i + m))).size = (grownCap w (i + m) cap 24 - (i + m)) * 2 := by simp [size_zeroCells]
    simp only [List.length_append, Array.length_toList, hz, hlo, hl]
    omega
  · have : (olds ++ cs).length = (i + m) * 2 := by rw [List.length_append, hlo, hl]; omega
    rw [← this]; exact List.take_left
  · exact ((Below.refl _ _).drew).alloc (Nat.le_refl _) _

/-- append of so many zero spans, where there is no room. -/
theorem append_zeros_sp (w : World) (i cap k : Nat) (b : Addr) (olds : List Value) (hlo : olds.length = i * 2) (holds : ∀ j v, olds[j]? = some v → w.cell? (b.add j) = some v)
    (h0 : 0 < k) (hg : cap < i + k) (hbig : (i + k) * 16 ≤ 140737488355328) :
    ∃ w' cap' cur', (∀ ty, (Builtin.append_ #[22, 3] ty #[.slice (some b) i cap, .int .i64 k]).run Try.prog w = .ok (.slice (some ⟨w.heap.size, 0, none⟩) (i + k) cap') w') ∧
      ArrAt w' w.heap.size cur' ∧ cur'.length = cap' * 2 ∧ cur'.take (i * 2) = olds ∧ i + k ≤ cap' ∧ cap' ≤ maxLen ∧ Below w.heap.size w w' := by
  obtain ⟨i0, hi, hzz⟩ := Option.map_eq_some_iff.1 info24
  simp only [Prod.mk.injEq] at hzz
  have hold := run_firstCells_some (P := Try.prog) w.drew 2 i b i cap olds hlo (by simpa using holds)
  have hr := fun ty => Lib.run_append_grow_zeros (P := Try.prog) w 22 3 ty 24 i0 (.agg #[.int .i64 0, .int .i64 0]) .i64 .i64 Try.underlying22 Try.underlying3 hi hzz.1 (some b) i cap olds (by rw [hzz.2.1]; exact hold) k h0 (by omega) hg (by omega) (by rw [hzz.2.2]; omega)
    (by rw [hzz.2.2]; exact growslice_fits (by omega) hbig)
  have hge := grownCap_ge w (i + k) cap 24
  have hcm := grownCap_le_maxLen w (i + k) cap 24 (by unfold maxLen; omega)
  refine ⟨_, _, olds ++ ((Builtin.zeroCells #[.int .i64 0, .int .i64 0] k).toList ++ (Builtin.zeroCells #[.int .i64 0, .int .i64 0] (grownCap w (i + k) cap 24 - (i + k))).toList), hr, ?_, ?_, ?_, hge, hcm, ?_⟩
  · have := heap_alloc_new w.drew (.cells (olds.toArray ++ Builtin.zeroCells (Value.agg #[.int .i64 0, .int .i64 0]).cells k ++ Builtin.zeroCells (Value.agg #[.int .i64 0, .int .i64 0]).cells (grownCap w (i + k) cap 24 - (i + k))) 24)
    unfold ArrAt
    refine Eq.trans this ?_
    refine congrArg some (arr_congr ?_)
    apply Array.ext'
    simp [Value.cells]
  · simp only [List.length_append, Array.length_toList, size_zeroCells, hlo]
    simp
    omega
  · rw [← hlo]; exact List.take_left
  · exact ((Below.refl _ _).drew).alloc (Nat.le_refl _) _

/-- clear. -/
theorem clear_sp (w : World) (n c g off : Nat) (A : Option Addr) (cur : List Value) (hg : ArrAt w g cur) (hpos : 0 < n → A = some ⟨g, off, none⟩) (hfit : off + n * 2 ≤ cur.length) :
    ∃ w' cs, (∀ ty, (Builtin.clear_ #[22] ty #[.slice A n c]).run Try.prog w = .ok (.tuple #[]) w') ∧ cs.length = n * 2 ∧ ArrAt w' g (lay cur off cs) ∧ Chg (fun k => k = g) w w' := by
  obtain ⟨i0, hi, hzz⟩ := Option.map_eq_some_iff.1 info24
  simp only [Prod.mk.injEq] at hzz
  by_cases h0 : n = 0
  · subst h0
    refine ⟨w, [], fun ty => ?_, rfl, by rw [lay_nil]; exact hg, Chg.refl _ _⟩
    cases A <;> simp [Builtin.clear_, run_underlying Try.underlying22]
  · obtain rfl := hpos (by omega)
    have hz : (Builtin.zeroCells #[Value.int .i64 0, .int .i64 0] n).toList.length = n * 2 := by simp [size_zeroCells]
    have h1 : ∀ v ∈ (Builtin.zeroCells #[Value.int .i64 0, .int .i64 0] n).toList, v.oneCell' = true := by
      intro v hv
      simp only [Builtin.zeroCells, Array.toList_map, List.mem_map] at hv
      obtain ⟨j, _, rfl⟩ := hv
      have : j % #[Value.int .i64 0, Value.int .i64 0].size < 2 := Nat.mod_lt _ (by simp)
      rcases (by omega : j % #[Value.int .i64 0, Value.int .i64 0].size = 0 ∨ j % #[Value.int .i64 0, Value.int .i64 0].size = 1) with h | h <;> rw [h] <;> rfl
    have hst := run_storeCells_at Try.prog g off 24 (Builtin.zeroCells #[Value.int .i64 0, .int .i64 0] n).toList 0 cur.toArray w hg.out (by simpa [hz] using hfit) h1
    simp only [Nat.add_zero] at hst
    refine ⟨_, (Builtin.zeroCells #[Value.int .i64 0, .int .i64 0] n).toList, fun ty => ?_, hz, ?_, chg_setRow w g (lay cur off (Builtin.zeroCells #[Value.int .i64 0, .int .i64 0] n).toList).toArray⟩
    · cases n with
      | zero => exact absurd rfl h0
      | succ n => simp [Builtin.clear_, run_underlying Try.underlying22, zeroValue, typeInfo, hi, hzz.1, Value.cells, hst, lay]
    · simpa [ArrAt] using setRow_heap w g cur.toArray _ 24 (0, 0) hg
end Go.Proofs.Ytcifbcdjkofomaa
