/-
  slices.Insert in the midst of a row of spans. Conditions: what is put in lies in another block.
-/
import Derived.Test.YtcifbcdjkofomaaIns
namespace Go.Proofs.Ytcifbcdjkofomaa
open Go.RowKit
set_option linter.unusedVariables false
set_option linter.unusedSimpArgs false


theorem lay_mid (cur L M : List Value) (p q N : Nat) (hL : cur.take N = L) (hN : N + q ≤ cur.length) (hp : p ≤ N) (hM : M.length = q) :
    (lay (lay cur (p + q) (L.drop p)) p M).take (N + q) = L.take p ++ M ++ L.drop p := by
  have hLl : L.length = N := by rw [← hL]; simp; omega
  have h1 : (cur.take (p + q)).length = p + q := by simp; omega
  have e1 : (lay cur (p + q) (L.drop p)).take p = L.take p := by
    rw [lay, List.take_append_of_le_length (by rw [h1]; omega), List.take_take, ← hL, List.take_take]
    congr 1; omega
  have e2 : (lay cur (p + q) (L.drop p)).drop (p + q) = L.drop p ++ cur.drop (p + q + (L.drop p).length) := by
    rw [lay]
    exact List.drop_left' h1
  rw [lay, e1, hM, e2, ← List.append_assoc, ← List.append_assoc]
  have h3 : (L.take p ++ M ++ L.drop p).length = N + q := by simp [hLl, hM]; omega
  rw [← h3]
  exact List.take_left

theorem nmin_r {a b : Nat} (h : b ≤ a) : Nat.min a b = b := Nat.min_eq_right h
theorem nmin_l {a b : Nat} (h : a ≤ b) : Nat.min a b = a := Nat.min_eq_left h
theorem Chg.undrew {M : Nat → Prop} {w w' : World} (h : Chg M w.drew w') : Chg M w w' := ⟨h.os, h.tape, h.output, h.size, h.block⟩
/-- Block b is plain memory. -/
def Plain (w : World) (b : Nat) : Prop := ∃ cs t, w.heap[b]? = some (.cells cs t (0, 0))
theorem Plain.chg {w w' : World} {M : Nat → Prop} {b : Nat} (h : Plain w b) (hc : Chg M w w') (hn : ¬ M b) : Plain w' b := by
  obtain ⟨cs, t, h⟩ := h
  exact ⟨cs, t, hc.at_ h hn⟩
theorem overlaps_no (w : World) (ad : Addr) (g o la ca lb cb : Nat) (cur : List Value) (hne : ad.block ≠ g) (hp : Plain w ad.block) (hg : ArrAt w g cur) (hc : 0 < cur.length) :
    Sem.run Try.prog (callFunc 101 #[.slice (some ad) la ca, .slice (some ⟨g, o, none⟩) lb cb]) w = .ok (.value (.bool false)) w := by
  obtain ⟨cs, t, hcs⟩ := hp
  rw [run_callFunc_extern Try.func101 (by kernel_rfl) (by kernel_rfl) (by kernel_rfl) (e := Extern.SlicesOverlaps.overlaps #[22, 22] #[4]) (by kernel_rfl),
    Lib.run_overlaps_apart w 22 4 24 Try.underlying22 2 (fun w => by kernel_rfl) ad ⟨g, o, none⟩ la ca lb cb hne t 24 cs.size cur.length (by simp [World.shape?, hcs]) (by simp [World.shape?, hg.out]) (by omega) (by simp [World.frozen?, hcs]) (by simp [World.frozen?, hcs])]
  rfl
set_option maxRecDepth 100000 in
set_option maxHeartbeats 2000000 in
theorem insert_room (g n c m cv i : Nat) (ad : Addr) (l ms : List Sp) (w : World) (h : SpRow w (.slice (some ⟨g, 0, none⟩) n c) l) (hm : m = ms.length) (hp : 0 < m) (hr : RdSp w (some ad) ms) (hi : i < n) (hroom : n + m ≤ c) (hne : ad.block ≠ g) (hpl : Plain w ad.block) :
    Calls Try.prog 100 #[.slice (some ⟨g, 0, none⟩) n c, .int .i64 i, .slice (some ad) m cv] w (Becomes w (.slice (some ⟨g, 0, none⟩) n c) (l.take i ++ ms ++ l.drop i)) := by
  obtain ⟨cur, hcur, hcl, hct, hnl, hnc, hcm⟩ := h.arr
  have hc : c ≤ 9223372036854775807 := by unfold maxLen at hcm; omega
  have hm0 : ((m : Int) == 0) = false := by rw [beq_eq_false_iff_ne]; omega
  have hin : ((i : Int) == n) = false := by rw [beq_eq_false_iff_ne]; omega
  have hci : ¬ c = i := by omega
  have hcim : ¬ c = i + m := by omega
  have HO := Lib.hid (overlaps_no w ad g ((i + m) * 2) m cv (n + m - (i + m)) (c - (i + m)) cur hne hpl hcur (by omega))
  have hll : (cellsOf (l.drop i)).length = (n - i) * 2 := by rw [cellsOf_length, List.length_drop, hnl]
  obtain ⟨w1, hr1, ha1, hc1⟩ := copy_sp w.drew (some ⟨g, (i + m) * 2, none⟩) (some ⟨g, i * 2, none⟩) (n + m - (i + m)) (c - (i + m)) (n + m - i) (c - i) g ((i + m) * 2) cur (cellsOf (l.drop i)) hcur
    (by rw [hll, nmin_r (by omega)]; omega)
    (fun _ => ⟨rfl, _, rfl, fun j v hj => by
      rw [show (⟨g, i * 2, none⟩ : Addr).add j = ⟨g, i * 2 + j, none⟩ by unfold Addr.add; split <;> simp_all]
      have hj' : j < (n - i) * 2 := by rw [← hll]; exact (List.getElem?_eq_some_iff.1 hj).1
      rw [ArrAt.cell (w := w.drew) hcur, ← hj, cellsOf_drop, ← hct, List.getElem?_drop, List.getElem?_take, if_pos (by omega)]⟩)
    (by rw [hll]; omega) (cellsOf_one _)
  have hc1 := Chg.undrew hc1
  have hr' := hr.chg (M := fun k => k = g) hc1 (fun ad' e => by cases e; exact hne)
  obtain ⟨w2, hr2, ha2, hc2⟩ := copy_sp w1 (some ⟨g, i * 2, none⟩) (some ad) (n + m - i) (c - i) m cv g (i * 2) _ (cellsOf ms) ha1
    (by rw [cellsOf_length, nmin_l (by omega), hm])
    (fun _ => ⟨rfl, by obtain ⟨ad', e, hs⟩ := hr'.src (by omega); exact ⟨ad', e, hs⟩⟩)
    (by rw [lay_length _ _ _ (by rw [hll]; omega), cellsOf_length]; omega) (cellsOf_one _)
  have HP : Hid (RowPost w (.slice (some ⟨g, 0, none⟩) n c) (l.take i ++ ms ++ l.drop i) w2 (.slice (some ⟨g, 0, none⟩) (n + m) c)) := by
    have hlen : (l.take i ++ ms ++ l.drop i).length = n + m := by simp; omega
    refine ⟨?_, ?_, .inl rfl⟩
    · have := SpRow.mk_arr (cap := c) (l := l.take i ++ ms ++ l.drop i) ha2 (by rw [lay_length _ _ _ (by rw [lay_length _ _ _ (by rw [hll]; omega), cellsOf_length]; omega), lay_length _ _ _ (by rw [hll]; omega)]; exact hcl) ?_ (by omega) hcm
      · rw [hlen] at this; exact this
      · rw [hlen, Nat.add_mul, cellsOf_append, cellsOf_append, cellsOf_take, cellsOf_drop, Nat.add_mul]
        exact lay_mid cur (cellsOf l) (cellsOf ms) (i * 2) (m * 2) (n * 2) hct (by omega) (by omega) (by rw [cellsOf_length, hm])
    · exact (hc1.trans hc2 (fun _ _ h => h)).mono (fun k h => by simp [Value.ownBlock, h])
  have HR1 := Lib.hid hr1; have HR2 := Lib.hid hr2
  clear hr1 hr2 ha1 ha2 hc1 hc2 hr' hr h hct hcl hll hcur
  have HS := Lib.hid (And.intro hnl hm); clear hnl hm
  have hw1 : IntKind.i64.wrap ((i : Int) + (m : Int)) = (i : Int) + (m : Int) := by rw [IntKind.wrap_i64]; omega
  have hb1 : (0 : Int) ≤ (i : Int) + (m : Int) := by omega
  have htn : ((i : Int) + (m : Int)).toNat = i + m := by omega
  have hb3 : (i : Int) ≤ (n : Int) + (m : Int) := by omega
  have hile : i ≤ n := by omega
  go_enter Try.func100, Try.ntmps100
  go_wp2_with fail
  rw [HO.out]
  go_wp2_with fail
  go_region_law (refine ev_step rfl (exec_copy rfl (by simp [Act.eval, Act.put]) (by simp [Act.eval, Act.put]) (HR1.out _)) ?_)
  clear hw1 htn
  go_wp2_with (refine ev_list (o := ⟨some 82, _, _, _, _, _⟩) rfl (exec_copy rfl rfl rfl (HR2.out _)) ?_)
  go_ret
  exact ⟨_, rfl, HP.out⟩

theorem lay_new (cur O M D : List Value) (p q : Nat) (hO : cur.take p = O) (hN : p + q + D.length ≤ cur.length) (hM : M.length = q) :
    (lay (lay cur p M) (p + q) D).take (p + q + D.length) = O ++ M ++ D := by
  have hp : (cur.take p).length = p := by simp; omega
  have e1 : (lay cur p M).take (p + q) = O ++ M := by
    have h3 : (cur.take p ++ M).length = p + q := by rw [List.length_append, hp, hM]
    rw [lay, ← List.append_assoc, ← h3, List.take_left, hO]
  have h4 : ((lay cur p M).take (p + q) ++ D).length = p + q + D.length := by
    rw [e1, List.length_append, List.length_append, ← hO, hp, hM]
  have e : lay (lay cur p M) (p + q) D = ((lay cur p M).take (p + q) ++ D) ++ (lay cur p M).drop (p + q + D.length) := by rw [lay]; simp
  rw [e, ← h4, List.take_left, e1]

set_option maxRecDepth 100000 in
set_option maxHeartbeats 2000000 in
theorem insert_grow (g n c m cv i : Nat) (ad : Addr) (l ms : List Sp) (w : World) (h : SpRow w (.slice (some ⟨g, 0, none⟩) n c) l) (hm : m = ms.length) (hp : 0 < m) (hr : RdSp w (some ad) ms) (hi : i < n) (hroom : c < n + m) (hbig : (n + m) * 16 ≤ 140737488355328) :
    Calls Try.prog 100 #[.slice (some ⟨g, 0, none⟩) n c, .int .i64 i, .slice (some ad) m cv] w (Becomes w (.slice (some ⟨g, 0, none⟩) n c) (l.take i ++ ms ++ l.drop i)) := by
  obtain ⟨cur, hcur, hcl, hct, hnl, hnc, hcm⟩ := h.arr
  have hc : c ≤ 9223372036854775807 := by unfold maxLen at hcm; omega
  have hm0 : ((m : Int) == 0) = false := by rw [beq_eq_false_iff_ne]; omega
  have hin : ((i : Int) == n) = false := by rw [beq_eq_false_iff_ne]; omega
  have hci : ¬ c = i := by omega
  have hgs : g < w.heap.size := lt_of_at hcur
  have hll : (cellsOf (l.drop i)).length = (n - i) * 2 := by rw [cellsOf_length, List.length_drop, hnl]
  have hrow : ∀ j v, j < n * 2 → (cellsOf l)[j]? = some v → w.cell? ⟨g, j, none⟩ = some v := fun j v hj hv => by
    rw [hcur.cell, ← hv, ← hct, List.getElem?_take, if_pos hj]
  obtain ⟨w1, c1, cur1, hr1, ha1, hl1, ht1, hg1, hm1, hb1⟩ := append_zeros_sp w i c (n + m - i) ⟨g, 0, none⟩ (cellsOf (l.take i)) (by rw [cellsOf_length, List.length_take]; omega)
    (fun j v hj => by
      rw [show (⟨g, 0, none⟩ : Addr).add j = ⟨g, 0 + j, none⟩ by unfold Addr.add; split <;> simp_all, Nat.zero_add]
      rw [cellsOf_take, List.getElem?_take] at hj
      split at hj
      · rename_i hlt; exact hrow j v (by omega) hj
      · cases hj)
    (by omega) (by omega) (by omega)
  have e1 : i + (n + m - i) = n + m := by omega
  rw [e1] at hg1 hr1
  have hsz := hb1.size
  obtain ⟨w2, hr2, ha2, hc2⟩ := copy_sp w1 (some ⟨w.heap.size, i * 2, none⟩) (some ad) (n + m - i) (c1 - i) m cv w.heap.size (i * 2) cur1 (cellsOf ms) ha1
    (by rw [cellsOf_length, nmin_l (by omega), hm])
    (fun _ => ⟨rfl, by obtain ⟨ad', e, hs⟩ := (hr.below hb1).src (by omega); exact ⟨ad', e, hs⟩⟩)
    (by rw [cellsOf_length]; omega) (cellsOf_one _)
  have hcur2 : ArrAt w2 g cur := (hcur.below hb1).chg hc2 (by omega)
  obtain ⟨w3, hr3, ha3, hc3⟩ := copy_sp w2.drew (some ⟨w.heap.size, (i + m) * 2, none⟩) (some ⟨g, i * 2, none⟩) (n + m - (i + m)) (c1 - (i + m)) (n - i) (c - i) w.heap.size ((i + m) * 2) (lay cur1 (i * 2) (cellsOf ms)) (cellsOf (l.drop i)) ha2
    (by rw [hll, nmin_l (by omega)])
    (fun _ => ⟨rfl, _, rfl, fun j v hj => by
      rw [show (⟨g, i * 2, none⟩ : Addr).add j = ⟨g, i * 2 + j, none⟩ by unfold Addr.add; split <;> simp_all]
      have hj' : j < (n - i) * 2 := by rw [← hll]; exact (List.getElem?_eq_some_iff.1 hj).1
      rw [ArrAt.cell (w := w2.drew) hcur2, ← hj, cellsOf_drop, ← hct, List.getElem?_drop, List.getElem?_take, if_pos (by omega)]⟩)
    (by rw [hll, lay_length _ _ _ (by rw [cellsOf_length]; omega)]; omega) (cellsOf_one _)
  have hc3 := Chg.undrew hc3
  have HP : Hid (RowPost w (.slice (some ⟨g, 0, none⟩) n c) (l.take i ++ ms ++ l.drop i) w3 (.slice (some ⟨w.heap.size, 0, none⟩) (n + m) c1)) := by
    have hlen : (l.take i ++ ms ++ l.drop i).length = n + m := by simp; omega
    refine ⟨?_, ?_, .inr ⟨_, rfl, Nat.le_refl _⟩⟩
    · have := SpRow.mk_arr (cap := c1) (l := l.take i ++ ms ++ l.drop i) ha3 (by rw [lay_length _ _ _ (by rw [lay_length _ _ _ (by rw [cellsOf_length]; omega), hll]; omega), lay_length _ _ _ (by rw [cellsOf_length]; omega)]; exact hl1) ?_ (by omega) hm1
      · rw [hlen] at this; exact this
      · rw [hlen, cellsOf_append, cellsOf_append, Nat.add_mul i m]
        have := lay_new cur1 (cellsOf (l.take i)) (cellsOf ms) (cellsOf (l.drop i)) (i * 2) (m * 2) ht1 (by rw [hll]; omega) (by rw [cellsOf_length, hm])
        rw [hll, show i * 2 + m * 2 + (n - i) * 2 = (n + m) * 2 by omega] at this
        exact this
    · refine Chg.trans (M' := fun k => k = w.heap.size) (Chg.of_below hb1) (hc2.trans hc3 (fun _ _ h => h)) (fun k hk h => absurd h (by omega))
  have HR1 := Lib.hid hr1; have HR2 := Lib.hid hr2; have HR3 := Lib.hid hr3
  have hx1 : ¬ c1 = i := by omega
  have hx2 : ¬ c1 = i + m := by omega
  have hc1m : c1 ≤ 9223372036854775807 := by unfold maxLen at hm1; omega
  clear hr1 hr2 hr3 ha1 ha2 ha3 hc2 hc3 hr h hct hcl hll hcur hcur2 hrow ht1 hl1 hb1 hsz hgs e1
  have HS := Lib.hid (And.intro hnl hm); clear hnl hm
  have hw1 : IntKind.i64.wrap ((i : Int) + (m : Int)) = (i : Int) + (m : Int) := by rw [IntKind.wrap_i64]; omega
  have hb1 : (0 : Int) ≤ (i : Int) + (m : Int) := by omega
  have htn : ((i : Int) + (m : Int)).toNat = i + m := by omega
  have hb3 : (i : Int) ≤ (n : Int) + (m : Int) := by omega
  have hile : i ≤ n := by omega
  have hsub : ((n : Int) + (m : Int)) - (i : Int) = ((n + m - i : Nat) : Int) := by omega
  go_enter Try.func100, Try.ntmps100
  go_wp2_with (first | (refine ev_list (o := ⟨some 40, _, _, _, _, _⟩) rfl (exec_append rfl rfl rfl (HR1.out _)) ?_) | (refine ev_list (o := ⟨some 45, _, _, _, _, _⟩) rfl (exec_copy rfl rfl rfl (HR2.out _)) ?_))
  clear hsub
  go_region_law (refine ev_step rfl (exec_copy rfl (by simp [Act.eval, Act.put]) (by simp [Act.eval, Act.put]) (HR3.out _)) ?_)
  clear hw1 htn
  go_wp2_with fail
  go_ret
  exact ⟨_, rfl, HP.out⟩

/-- slices.Insert: every place, every row, what is put in lying elsewhere. -/
theorem insert_any (A : Option Addr) (n c m cv i : Nat) (Av : Option Addr) (l ms : List Sp) (w : World) (h : SpRow w (.slice A n c) l) (hi : i ≤ n) (hm : m = ms.length) (hr : RdSp w Av ms)
    (hap : ∀ ad, Av = some ad → Plain w ad.block ∧ some ad.block ≠ (Value.slice A n c).ownBlock) (hbig : (n + m) * 16 ≤ 140737488355328) :
    Calls Try.prog 100 #[.slice A n c, .int .i64 i, .slice Av m cv] w (Becomes w (.slice A n c) (l.take i ++ ms ++ l.drop i)) := by
  have hl := h.len
  by_cases h0 : m = 0
  · subst h0
    obtain rfl : ms = [] := List.eq_nil_of_length_eq_zero hm.symm
    have := insert_none A Av n c cv l i w h hi
    simpa using this
  · by_cases hin : i = n
    · subst hin
      have := insert_end A Av i c m cv l ms w h hm (by omega) hr (by rw [← hl.1]; exact hbig)
      rw [List.take_of_length_le (by omega), List.drop_of_length_le (by omega), List.append_nil]
      exact this
    · rcases h.shape with ⟨hv, rfl⟩ | ⟨g, cap, cur, hv, _⟩
      · simp at hl; omega
      · injection hv with hA _ _
        subst hA
        obtain ⟨ad, rfl, _⟩ := hr.src (by omega)
        obtain ⟨hpl, hne⟩ := hap ad rfl
        have hne' : ad.block ≠ g := fun e => hne (by simp [Value.ownBlock, e])
        by_cases hroom : n + m ≤ c
        · exact insert_room g n c m cv i ad l ms w h hm (by omega) hr (by omega) hroom hne' hpl
        · exact insert_grow g n c m cv i ad l ms w h hm (by omega) hr (by omega) (by omega) hbig
end Go.Proofs.Ytcifbcdjkofomaa
