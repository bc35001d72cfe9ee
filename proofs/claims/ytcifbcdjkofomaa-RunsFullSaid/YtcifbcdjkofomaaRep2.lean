/-
  slices.Replace by more than go, in the midst of a row. Conditions: what is put in lies in another block.
-/
import Derived.Test.YtcifbcdjkofomaaLay
namespace Go.Proofs.Ytcifbcdjkofomaa
open Go.RowKit
set_option linter.unusedVariables false
set_option linter.unusedSimpArgs false


theorem lay_exp (cur O M D : List Value) (p q : Nat) (hO : cur.take p = O) (hN : p + q + D.length ≤ cur.length) (hM : M.length = q) :
    (lay (lay cur (p + q) D) p M).take (p + q + D.length) = O ++ M ++ D := by
  have h1 : (lay cur (p + q) D).take p = O := by rw [lay_take _ _ _ _ (by omega) (by omega)]; exact hO
  have hp : O.length = p := by rw [← hO]; simp; omega
  have h2 : (lay cur (p + q) D).drop (p + q) = D ++ cur.drop (p + q + D.length) := by
    have h3 : (cur.take (p + q)).length = p + q := by simp; omega
    rw [lay]
    exact List.drop_left' h3
  rw [lay, h1, hM, h2]
  have e : O ++ (M ++ (D ++ cur.drop (p + q + D.length))) = (O ++ M ++ D) ++ cur.drop (p + q + D.length) := by simp
  rw [e]
  exact List.take_left' (by simp; omega)
theorem overlaps_no2 (w : World) (ad : Addr) (g o la ca lb cb : Nat) (cur : List Value) (hne : ad.block ≠ g) (hp : Plain w ad.block) (hg : ArrAt w g cur) (hx : ∃ k v, w.cell? ⟨ad.block, k, none⟩ = some v) :
    Sem.run Try.prog (callFunc 101 #[.slice (some ⟨g, o, none⟩) lb cb, .slice (some ad) la ca]) w = .ok (.value (.bool false)) w := by
  obtain ⟨cs, t, hcs⟩ := hp
  have hsz : cs.size ≠ 0 := by
    obtain ⟨k, v, hk⟩ := hx
    rw [cell_of_at hcs] at hk
    have := (Array.getElem?_eq_some_iff.1 hk).1
    omega
  rw [run_callFunc_extern Try.func101 (by kernel_rfl) (by kernel_rfl) (by kernel_rfl) (e := Extern.SlicesOverlaps.overlaps #[22, 22] #[4]) (by kernel_rfl),
    Lib.run_overlaps_apart w 22 4 24 Try.underlying22 2 (fun w => by kernel_rfl) ⟨g, o, none⟩ ad lb cb la ca (Ne.symm hne) 24 t cur.length cs.size (by simp [World.shape?, hg.out]) (by simp [World.shape?, hcs]) hsz (by simp [World.frozen?, hg.out]) (by simp [World.frozen?, hg.out])]
  rfl
theorem expand_mem (g n c m cv i j t : Nat) (ad : Addr) (l ms : List Sp) (w : World) (h : SpRow w (.slice (some ⟨g, 0, none⟩) n c) l) (hi : i < j) (hj : j < n) (hm : m = ms.length) (hr : RdSp w (some ad) ms) (hap : ad.block ≠ g) (hroom : j < i + m) (htot : t = i + m + (n - j)) (htc : t ≤ c) (nq : Nat) :
    ∃ w1 w2, (∀ ty, (Builtin.copy_ #[22, 22] ty #[.slice (some ⟨g, (i + m) * 2, none⟩) (t - (i + m)) (c - (i + m)), .slice (some ⟨g, j * 2, none⟩) (n - j) (c - j)]).run Try.prog (w.drewN nq).drew = .ok (goInt (Nat.min (n - j) (t - (i + m)) : Nat)) w1) ∧
      (∀ ty, (Builtin.copy_ #[22, 22] ty #[.slice (some ⟨g, i * 2, none⟩) (t - i) (c - i), .slice (some ad) m cv]).run Try.prog w1 = .ok (goInt (Nat.min m (t - i) : Nat)) w2) ∧
      Hid (RowPost w (.slice (some ⟨g, 0, none⟩) n c) (l.take i ++ ms ++ l.drop j) w2 (.slice (some ⟨g, 0, none⟩) t c)) := by
  obtain ⟨cur, hcur, hcl, hct, hnl, hnc, hcm⟩ := h.arr
  have hll : (cellsOf (l.drop j)).length = (n - j) * 2 := by rw [cellsOf_length, List.length_drop, hnl]
  obtain ⟨w1, hr1, ha1, hc1⟩ := copy_sp (w.drewN nq).drew (some ⟨g, (i + m) * 2, none⟩) (some ⟨g, j * 2, none⟩) (t - (i + m)) (c - (i + m)) (n - j) (c - j) g ((i + m) * 2) cur (cellsOf (l.drop j)) hcur
    (by rw [hll, nmin_l (by omega)])
    (fun _ => ⟨rfl, _, rfl, fun k v hk => by
      rw [show (⟨g, j * 2, none⟩ : Addr).add k = ⟨g, j * 2 + k, none⟩ by unfold Addr.add; split <;> simp_all]
      have hk' : k < (n - j) * 2 := by rw [← hll]; exact (List.getElem?_eq_some_iff.1 hk).1
      rw [ArrAt.cell (w := (w.drewN nq).drew) hcur, ← hk, cellsOf_drop, ← hct, List.getElem?_drop, List.getElem?_take, if_pos (by omega)]⟩)
    (by rw [hll]; omega) (cellsOf_one _)
  have hc1 := Chg.undrewN (Chg.undrew hc1)
  have hr' := hr.chg (M := fun k => k = g) hc1 (fun ad' e => by cases e; exact hap)
  have hl1 : (lay cur ((i + m) * 2) (cellsOf (l.drop j))).length = c * 2 := by rw [lay_length _ _ _ (by rw [hll]; omega)]; exact hcl
  obtain ⟨w2, hr2, ha2, hc2⟩ := copy_sp w1 (some ⟨g, i * 2, none⟩) (some ad) (t - i) (c - i) m cv g (i * 2) _ (cellsOf ms) ha1
    (by rw [cellsOf_length, nmin_l (by omega), hm])
    (fun hp => ⟨rfl, by obtain ⟨ad', e, hs⟩ := hr'.src (by omega); exact ⟨ad', e, hs⟩⟩)
    (by rw [hl1, cellsOf_length]; omega) (cellsOf_one _)
  refine ⟨w1, w2, hr1, hr2, ?_⟩
  have hlen : (l.take i ++ ms ++ l.drop j).length = t := by simp; omega
  refine ⟨?_, (hc1.trans hc2 (fun _ _ h => h)).mono (fun k h => by simp [Value.ownBlock, h]), .inl rfl⟩
  have := SpRow.mk_arr (cap := c) (l := l.take i ++ ms ++ l.drop j) ha2 (by rw [lay_length _ _ _ (by rw [hl1, cellsOf_length]; omega)]; exact hl1) ?_ (by omega) hcm
  · rw [hlen] at this; exact this
  · have := lay_exp cur (cellsOf (l.take i)) (cellsOf ms) (cellsOf (l.drop j)) (i * 2) (m * 2) (by rw [cellsOf_take, ← hct, List.take_take, Nat.min_eq_left (by omega)]) (by rw [hll]; omega) (by rw [cellsOf_length, hm])
    rw [hll, ← Nat.add_mul, ← Nat.add_mul, ← htot] at this
    rw [hlen, this, cellsOf_append, cellsOf_append]

set_option maxRecDepth 100000 in
set_option maxHeartbeats 4000000 in
theorem replace_expand (g n c m cv i j : Nat) (ad : Addr) (l ms : List Sp) (w : World) (h : SpRow w (.slice (some ⟨g, 0, none⟩) n c) l) (hi : i < j) (hj : j < n) (hm : m = ms.length) (hr : RdSp w (some ad) ms) (hap : ad.block ≠ g) (hpl : Plain w ad.block) (hroom : j < i + m) (htc : i + m + (n - j) ≤ c) :
    Calls Try.prog 88 #[.slice (some ⟨g, 0, none⟩) n c, .int .i64 i, .int .i64 j, .slice (some ad) m cv] w (Becomes w (.slice (some ⟨g, 0, none⟩) n c) (l.take i ++ ms ++ l.drop j)) := by
  obtain ⟨t, htot⟩ : ∃ t, t = i + m + (n - j) := ⟨_, rfl⟩
  have HB := Lib.hid (expand_mem g n c m cv i j t ad l ms w h hi hj hm hr hap hroom htot (by omega))
  obtain ⟨cur, hcur, hcl, hct, hnl, hnc, hcm⟩ := h.arr
  have hc : c ≤ 9223372036854775807 := by unfold maxLen at hcm; omega
  have hij0 : ((i : Int) == j) = false := by rw [beq_eq_false_iff_ne]; omega
  have hci : ¬ c = i := by omega
  have hjn : ((j : Int) == n) = false := by rw [beq_eq_false_iff_ne]; omega
  have hcj : ¬ c = j := by omega
  have hcim : ¬ c = i + m := by omega
  have HO : Hid (∀ nq, Sem.run Try.prog (callFunc 101 #[.slice (some ⟨g, (i + m) * 2, none⟩) (t - (i + m)) (c - (i + m)), .slice (some ad) m cv]) (w.drewN nq) = .ok (.value (.bool false)) (w.drewN nq)) :=
    fun nq => overlaps_no2 (w.drewN nq) ad g ((i + m) * 2) m cv (t - (i + m)) (c - (i + m)) cur hap hpl hcur (by
      rcases hr with h0 | ⟨g', o, hA, hcc⟩
      · rw [h0] at hm; simp at hm; omega
      · injection hA with hA; subst hA
        exact ⟨_, _, (hcc 0 (by omega)).1⟩)
  clear hr h hct hcl hcur hap hpl
  have HS := Lib.hid (And.intro hnl hm); clear hnl hm
  have htle : n ≤ t := by omega
  have htc' : t ≤ c := by omega
  have hti : i ≤ t := by omega
  have htim : i + m ≤ t := by omega
  have hjle : j ≤ n := by omega
  have hile : i ≤ n := by omega
  have e1 : ((i : Int) + (m : Int)) + (((n - j : Nat) : Nat) : Int) = (t : Int) := by omega
  have hw1 : IntKind.i64.wrap ((i : Int) + (m : Int)) = (i : Int) + (m : Int) := wrapi (by omega)
  have hw2 : IntKind.i64.wrap (t : Int) = (t : Int) := wrapi (by omega)
  have htn : ((i : Int) + (m : Int)).toNat = i + m := by omega
  have HT := Lib.hid htot; clear htot
  go_enter Try.func88, Try.ntmps88
  go_wp2_with fail
  go_quiet (fail)
  obtain ⟨w1, w2, hr1, hr2, HP⟩ := HB.out nq
  have HO1 := Lib.hid (HO.out nq); clear HO
  have HR1 := Lib.hid hr1; have HR2 := Lib.hid hr2
  clear hr1 hr2 HB
  have hge : ¬ ((c : Int) < t) := by omega
  have hle : ¬ (i : Int) + m ≤ j := by omega
  have hb1 : (0 : Int) ≤ (i : Int) + m := by omega
  have hb2 : (i : Int) + m ≤ t := by omega
  go_wp2_with fail
  rw [HO1.out]
  go_wp2_with fail
  go_region_law (refine ev_step rfl (exec_copy rfl (by simp [Act.eval, Act.put]) (by simp [Act.eval, Act.put]) (HR1.out _)) ?_)
  clear hw1 hw2 htn e1 HR1
  go_wp2_with (refine ev_list (o := ⟨some 135, _, _, _, _, _⟩) rfl (exec_copy rfl rfl rfl (HR2.out _)) ?_)
  go_ret
  exact ⟨_, rfl, HP.out⟩
theorem expandg_mem (g n c m cv i j t : Nat) (ad : Addr) (l ms : List Sp) (w : World) (h : SpRow w (.slice (some ⟨g, 0, none⟩) n c) l) (hi : i < j) (hj : j < n) (hm : m = ms.length) (hr : RdSp w (some ad) ms) (hroom : j < i + m) (htot : t = i + m + (n - j)) (htc : c < t) (hbig : (n + m) * 16 ≤ 140737488355328) (nq : Nat) :
    ∃ w1 w2 w3 c1, t ≤ c1 ∧ c1 ≤ maxLen ∧ (∀ ty, (Builtin.append_ #[22, 3] ty #[.slice (some ⟨g, 0, none⟩) i c, .int .i64 (t - i : Nat)]).run Try.prog (w.drewN nq) = .ok (.slice (some ⟨w.heap.size, 0, none⟩) t c1) w1) ∧
      (∀ ty, (Builtin.copy_ #[22, 22] ty #[.slice (some ⟨w.heap.size, i * 2, none⟩) (t - i) (c1 - i), .slice (some ad) m cv]).run Try.prog w1 = .ok (goInt (Nat.min m (t - i) : Nat)) w2) ∧
      (∀ ty, (Builtin.copy_ #[22, 22] ty #[.slice (some ⟨w.heap.size, (i + m) * 2, none⟩) (t - (i + m)) (c1 - (i + m)), .slice (some ⟨g, j * 2, none⟩) (n - j) (c - j)]).run Try.prog w2.drew = .ok (goInt (Nat.min (n - j) (t - (i + m)) : Nat)) w3) ∧
      Hid (RowPost w (.slice (some ⟨g, 0, none⟩) n c) (l.take i ++ ms ++ l.drop j) w3 (.slice (some ⟨w.heap.size, 0, none⟩) t c1)) := by
  obtain ⟨cur, hcur, hcl, hct, hnl, hnc, hcm⟩ := h.arr
  have hgs : g < w.heap.size := lt_of_at hcur
  have hll : (cellsOf (l.drop j)).length = (n - j) * 2 := by rw [cellsOf_length, List.length_drop, hnl]
  have hrow : ∀ j v, j < n * 2 → (cellsOf l)[j]? = some v → w.cell? ⟨g, j, none⟩ = some v := fun j v hj hv => by
    rw [hcur.cell, ← hv, ← hct, List.getElem?_take, if_pos hj]
  obtain ⟨w1, c1, cur1, hr1, ha1, hl1, ht1, hg1, hm1, hb1⟩ := append_zeros_sp (w.drewN nq) i c (t - i) ⟨g, 0, none⟩ (cellsOf (l.take i)) (by rw [cellsOf_length, List.length_take]; omega)
    (fun k v hk => by
      rw [show (⟨g, 0, none⟩ : Addr).add k = ⟨g, 0 + k, none⟩ by unfold Addr.add; split <;> simp_all, Nat.zero_add]
      rw [cellsOf_take, List.getElem?_take] at hk
      split at hk
      · rename_i hlt; exact hrow k v (by omega) hk
      · cases hk)
    (by omega) (by omega) (by omega)
  have e1 : i + (t - i) = t := by omega
  rw [e1] at hg1 hr1
  replace hb1 : Below w.heap.size w w1 := (Below.drewN_ (Below.refl _ _) nq).trans hb1
  have hsz := hb1.size
  replace ha1 : ArrAt w1 w.heap.size cur1 := ha1
  obtain ⟨w2, hr2, ha2, hc2⟩ := copy_sp w1 (some ⟨w.heap.size, i * 2, none⟩) (some ad) (t - i) (c1 - i) m cv w.heap.size (i * 2) cur1 (cellsOf ms) ha1
    (by rw [cellsOf_length, nmin_l (by omega), hm])
    (fun hp => ⟨rfl, by obtain ⟨ad', e, hs⟩ := (hr.below hb1).src (by omega); exact ⟨ad', e, hs⟩⟩)
    (by rw [cellsOf_length]; omega) (cellsOf_one _)
  have hcur2 : ArrAt w2 g cur := (hcur.below hb1).chg hc2 (by omega)
  obtain ⟨w3, hr3, ha3, hc3⟩ := copy_sp w2.drew (some ⟨w.heap.size, (i + m) * 2, none⟩) (some ⟨g, j * 2, none⟩) (t - (i + m)) (c1 - (i + m)) (n - j) (c - j) w.heap.size ((i + m) * 2) (lay cur1 (i * 2) (cellsOf ms)) (cellsOf (l.drop j)) ha2
    (by rw [hll, nmin_l (by omega)])
    (fun _ => ⟨rfl, _, rfl, fun k v hk => by
      rw [show (⟨g, j * 2, none⟩ : Addr).add k = ⟨g, j * 2 + k, none⟩ by unfold Addr.add; split <;> simp_all]
      have hk' : k < (n - j) * 2 := by rw [← hll]; exact (List.getElem?_eq_some_iff.1 hk).1
      rw [ArrAt.cell (w := w2.drew) hcur2, ← hk, cellsOf_drop, ← hct, List.getElem?_drop, List.getElem?_take, if_pos (by omega)]⟩)
    (by rw [hll, lay_length _ _ _ (by rw [cellsOf_length]; omega)]; omega) (cellsOf_one _)
  have hc3 := Chg.undrew hc3
  refine ⟨w1, w2, w3, c1, hg1, hm1, hr1, hr2, hr3, ?_⟩
  have hlen : (l.take i ++ ms ++ l.drop j).length = t := by simp; omega
  refine ⟨?_, ?_, .inr ⟨_, rfl, Nat.le_refl _⟩⟩
  · have := SpRow.mk_arr (cap := c1) (l := l.take i ++ ms ++ l.drop j) ha3 (by rw [lay_length _ _ _ (by rw [lay_length _ _ _ (by rw [cellsOf_length]; omega), hll]; omega), lay_length _ _ _ (by rw [cellsOf_length]; omega)]; exact hl1) ?_ (by omega) hm1
    · rw [hlen] at this; exact this
    · rw [hlen, cellsOf_append, cellsOf_append]
      have := lay_new cur1 (cellsOf (l.take i)) (cellsOf ms) (cellsOf (l.drop j)) (i * 2) (m * 2) ht1 (by rw [hll]; omega) (by rw [cellsOf_length, hm])
      rw [hll, ← Nat.add_mul, ← Nat.add_mul, ← htot] at this
      exact this
  · refine Chg.trans (M' := fun k => k = w.heap.size) (Chg.of_below hb1) (hc2.trans hc3 (fun _ _ h => h)) (fun k hk h => absurd h (by omega))

set_option maxRecDepth 100000 in
set_option maxHeartbeats 4000000 in
theorem replace_expandg (g n c m cv i j : Nat) (ad : Addr) (l ms : List Sp) (w : World) (h : SpRow w (.slice (some ⟨g, 0, none⟩) n c) l) (hi : i < j) (hj : j < n) (hm : m = ms.length) (hr : RdSp w (some ad) ms) (hroom : j < i + m) (htc : c < i + m + (n - j)) (hbig : (n + m) * 16 ≤ 140737488355328) :
    Calls Try.prog 88 #[.slice (some ⟨g, 0, none⟩) n c, .int .i64 i, .int .i64 j, .slice (some ad) m cv] w (Becomes w (.slice (some ⟨g, 0, none⟩) n c) (l.take i ++ ms ++ l.drop j)) := by
  obtain ⟨t, htot⟩ : ∃ t, t = i + m + (n - j) := ⟨_, rfl⟩
  have HB := Lib.hid (expandg_mem g n c m cv i j t ad l ms w h hi hj hm hr hroom htot (by omega) hbig)
  obtain ⟨cur, hcur, hcl, hct, hnl, hnc, hcm⟩ := h.arr
  have hc : c ≤ 9223372036854775807 := by unfold maxLen at hcm; omega
  have hij0 : ((i : Int) == j) = false := by rw [beq_eq_false_iff_ne]; omega
  have hci : ¬ c = i := by omega
  have hjn : ((j : Int) == n) = false := by rw [beq_eq_false_iff_ne]; omega
  have hcj : ¬ c = j := by omega
  clear hr h hct hcl hcur
  have HS := Lib.hid (And.intro hnl hm); clear hnl hm
  have htle : n ≤ t := by omega
  have htc' : (c : Int) < t := by omega
  have hti : i ≤ t := by omega
  have htim : i + m ≤ t := by omega
  have hjle : j ≤ n := by omega
  have hile : i ≤ n := by omega
  have htb : t ≤ 9223372036854775807 := by omega
  have e1 : ((i : Int) + (m : Int)) + (((n - j : Nat) : Nat) : Int) = (t : Int) := by omega
  have hw1 : IntKind.i64.wrap ((i : Int) + (m : Int)) = (i : Int) + (m : Int) := wrapi (by omega)
  have hw2 : IntKind.i64.wrap (t : Int) = (t : Int) := wrapi (by omega)
  have htn : ((i : Int) + (m : Int)).toNat = i + m := by omega
  have HT := Lib.hid htot; clear htot
  go_enter Try.func88, Try.ntmps88
  go_wp2_with fail
  go_quiet (fail)
  obtain ⟨w1, w2, w3, c1, hg1, hm1, hr1, hr2, hr3, HP⟩ := HB.out nq
  have HR1 := Lib.hid hr1; have HR2 := Lib.hid hr2; have HR3 := Lib.hid hr3
  clear hr1 hr2 hr3 HB
  have hx1 : ¬ c1 = i := by omega
  have hx2 : ¬ c1 = i + m := by omega
  have hc1m : c1 ≤ 9223372036854775807 := by unfold maxLen at hm1; omega
  have hb1 : (0 : Int) ≤ (i : Int) + m := by omega
  have hb2 : (i : Int) + m ≤ t := by omega
  have hsub : (t : Int) - (i : Int) = ((t - i : Nat) : Int) := by omega
  go_wp2_with (first | (refine ev_list (o := ⟨some 67, _, _, _, _, _⟩) rfl (exec_append rfl rfl rfl (HR1.out _)) ?_) | (refine ev_list (o := ⟨some 72, _, _, _, _, _⟩) rfl (exec_copy rfl rfl rfl (HR2.out _)) ?_))
  clear hsub
  go_region_law (refine ev_step rfl (exec_copy rfl (by simp [Act.eval, Act.put]) (by simp [Act.eval, Act.put]) (HR3.out _)) ?_)
  clear hw1 hw2 htn e1 HR1 HR2 HR3
  go_wp2_with fail
  go_ret
  exact ⟨_, rfl, HP.out⟩
end Go.Proofs.Ytcifbcdjkofomaa
