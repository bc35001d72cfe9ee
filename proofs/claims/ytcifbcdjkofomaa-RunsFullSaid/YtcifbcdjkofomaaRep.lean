/-
  slices.Replace over a row of spans of its own. Conditions: what is put in lies in another block.
-/
import Derived.Test.YtcifbcdjkofomaaIns2
namespace Go.Proofs.Ytcifbcdjkofomaa
open Go.RowKit
set_option linter.unusedVariables false
set_option linter.unusedSimpArgs false


theorem lay_end (cur O M : List Value) (p q : Nat) (hO : cur.take p = O) (hN : p + q ≤ cur.length) (hM : M.length = q) : (lay cur p M).take (p + q) = O ++ M := by
  have hp : (cur.take p).length = p := by simp; omega
  have h3 : (cur.take p ++ M).length = p + q := by rw [List.length_append, hp, hM]
  rw [lay, ← List.append_assoc, ← h3, List.take_left, hO]
theorem lay_take (cur cs : List Value) (p k : Nat) (h : k ≤ p) (hl : p ≤ cur.length) : (lay cur p cs).take k = cur.take k := by
  rw [lay, List.take_append_of_le_length (by simp; omega), List.take_take, Nat.min_eq_left h]
theorem lay_drop (cur cs : List Value) (p k : Nat) (h : p + cs.length ≤ k) (hl : p + cs.length ≤ cur.length) : (lay cur p cs).drop k = cur.drop k := by
  rw [lay, ← List.append_assoc, List.drop_append]
  have h1 : (List.take p cur ++ cs).length = p + cs.length := by simp; omega
  rw [List.drop_of_length_le (by rw [h1]; omega), h1, List.drop_drop]
  simp
  congr 1
  omega

set_option maxRecDepth 100000 in
set_option maxHeartbeats 2000000 in
theorem replace_end_room (g n c m cv i j : Nat) (Av : Option Addr) (l ms : List Sp) (w : World) (h : SpRow w (.slice (some ⟨g, 0, none⟩) n c) l) (hi : i < j) (hj : j = n) (hm : m = ms.length) (hr : RdSp w Av ms) (hroom : i + m ≤ c) :
    Calls Try.prog 88 #[.slice (some ⟨g, 0, none⟩) n c, .int .i64 i, .int .i64 j, .slice Av m cv] w (Becomes w (.slice (some ⟨g, 0, none⟩) n c) (l.take i ++ ms)) := by
  obtain ⟨cur, hcur, hcl, hct, hnl, hnc, hcm⟩ := h.arr
  have hc : c ≤ 9223372036854775807 := by unfold maxLen at hcm; omega
  have hij0 : ((i : Int) == j) = false := by rw [beq_eq_false_iff_ne]; omega
  have hci : ¬ c = i := by omega
  have hjn : ((j : Int) == n) = true := by rw [beq_iff_eq]; omega
  obtain ⟨w1, hr1, ha1, hc1⟩ := append_room_sp w g i c m cv Av cur (cellsOf ms) hcur (by rw [cellsOf_length, hm]) (fun hp => hr.src (by omega)) (cellsOf_one _) hroom (by rw [cellsOf_length]; omega)
  have hl1 : (lay cur (i * 2) (cellsOf ms)).length = c * 2 := by rw [lay_length _ _ _ (by rw [cellsOf_length]; omega)]; exact hcl
  have hlen : (l.take i ++ ms).length = i + m := by simp; omega
  have ht : (lay cur (i * 2) (cellsOf ms)).take ((l.take i ++ ms).length * 2) = cellsOf (l.take i ++ ms) := by
    rw [hlen, Nat.add_mul, cellsOf_append, cellsOf_take]
    refine lay_end cur _ (cellsOf ms) (i * 2) (m * 2) ?_ (by omega) (by rw [cellsOf_length, hm])
    rw [← hct, List.take_take, Nat.min_eq_left (by omega)]
  by_cases hlt : i + m < n
  · have hcim : ¬ c = i + m := by omega
    obtain ⟨w2, cs2, hr2, hcs2, ha2, hc2⟩ := clear_sp w1 (n - (i + m)) (c - (i + m)) g ((i + m) * 2) (some ⟨g, (i + m) * 2, none⟩) _ ha1 (fun _ => rfl) (by rw [hl1]; omega)
    have HP : Hid (RowPost w (.slice (some ⟨g, 0, none⟩) n c) (l.take i ++ ms) w2 (.slice (some ⟨g, 0, none⟩) (i + m) c)) := by
      refine ⟨?_, (hc1.trans hc2 (fun _ _ h => h)).mono (fun k h => by simp [Value.ownBlock, h]), .inl rfl⟩
      have := SpRow.mk_arr (cap := c) (l := l.take i ++ ms) ha2 (by rw [lay_length _ _ _ (by rw [hl1, hcs2]; omega)]; exact hl1) (by rw [lay_take _ _ _ _ (by rw [hlen]; exact Nat.le_refl _) (by rw [hl1]; omega)]; exact ht) (by omega) hcm
      rw [hlen] at this; exact this
    have HR1 := Lib.hid hr1; have HR2 := Lib.hid hr2
    clear hr1 hr2 ha1 ha2 hc1 hc2 hr h hct hcl hcur hl1 ht hlen hcs2
    have HS := Lib.hid (And.intro hnl hm); clear hnl hm
    go_enter Try.func88, Try.ntmps88
    go_wp2_with (first | (refine ev_list (o := ⟨some 34, _, _, _, _, _⟩) rfl (exec_append rfl rfl rfl (HR1.out _)) ?_) | (refine ev_list (o := ⟨none, .call { callee := .builtin .clear, args := _, argTypes := _ }, _, _, _, _⟩) rfl (exec_clear rfl rfl (HR2.out _)) ?_))
    go_ret
    exact ⟨_, rfl, HP.out⟩
  · have HP : Hid (RowPost w (.slice (some ⟨g, 0, none⟩) n c) (l.take i ++ ms) w1 (.slice (some ⟨g, 0, none⟩) (i + m) c)) := by
      refine ⟨?_, hc1.mono (fun k h => by simp [Value.ownBlock, h]), .inl rfl⟩
      have := SpRow.mk_arr (cap := c) (l := l.take i ++ ms) ha1 hl1 ht (by omega) hcm
      rw [hlen] at this; exact this
    have HR1 := Lib.hid hr1
    clear hr1 ha1 hc1 hr h hct hcl hcur hl1 ht hlen
    have HS := Lib.hid (And.intro hnl hm); clear hnl hm
    have hge : ¬ ((i : Int) + m < n) := by omega
    go_enter Try.func88, Try.ntmps88
    go_wp2_with (refine ev_list (o := ⟨some 34, _, _, _, _, _⟩) rfl (exec_append rfl rfl rfl (HR1.out _)) ?_)
    go_ret
    exact ⟨_, rfl, HP.out⟩

set_option maxRecDepth 100000 in
set_option maxHeartbeats 2000000 in
theorem replace_end_grow (g n c m cv i j : Nat) (Av : Option Addr) (l ms : List Sp) (w : World) (h : SpRow w (.slice (some ⟨g, 0, none⟩) n c) l) (hi : i < j) (hj : j = n) (hm : m = ms.length) (hr : RdSp w Av ms) (hroom : c < i + m) (hbig : (n + m) * 16 ≤ 140737488355328) :
    Calls Try.prog 88 #[.slice (some ⟨g, 0, none⟩) n c, .int .i64 i, .int .i64 j, .slice Av m cv] w (Becomes w (.slice (some ⟨g, 0, none⟩) n c) (l.take i ++ ms)) := by
  obtain ⟨cur, hcur, hcl, hct, hnl, hnc, hcm⟩ := h.arr
  have hc : c ≤ 9223372036854775807 := by unfold maxLen at hcm; omega
  have hij0 : ((i : Int) == j) = false := by rw [beq_eq_false_iff_ne]; omega
  have hci : ¬ c = i := by omega
  have hjn : ((j : Int) == n) = true := by rw [beq_iff_eq]; omega
  obtain ⟨ad, rfl, hsrc⟩ := hr.src (by omega)
  have hrow : ∀ j v, j < n * 2 → (cellsOf l)[j]? = some v → w.cell? ⟨g, j, none⟩ = some v := fun j v hj hv => by
    rw [hcur.cell, ← hv, ← hct, List.getElem?_take, if_pos hj]
  obtain ⟨w1, c1, cur1, hr1, ha1, hl1, ht1, hg1, hm1, hb1⟩ := append_grow_sp w i c m cv ⟨g, 0, none⟩ ad (cellsOf (l.take i)) (cellsOf ms) (by rw [cellsOf_length, List.length_take]; omega)
    (fun j v hj => by
      rw [show (⟨g, 0, none⟩ : Addr).add j = ⟨g, 0 + j, none⟩ by unfold Addr.add; split <;> simp_all, Nat.zero_add]
      rw [cellsOf_take, List.getElem?_take] at hj
      split at hj
      · rename_i hlt; exact hrow j v (by omega) hj
      · cases hj) (by rw [cellsOf_length, hm]) hsrc hroom (by omega)
  have hlen : (l.take i ++ ms).length = i + m := by simp; omega
  have HP : Hid (RowPost w (.slice (some ⟨g, 0, none⟩) n c) (l.take i ++ ms) w1 (.slice (some ⟨w.heap.size, 0, none⟩) (i + m) c1)) := by
    refine ⟨?_, Chg.of_below hb1, .inr ⟨_, rfl, Nat.le_refl _⟩⟩
    have := SpRow.mk_arr (cap := c1) (l := l.take i ++ ms) ha1 hl1 (by rw [hlen, cellsOf_append]; exact ht1) (by omega) hm1
    rw [hlen] at this; exact this
  have HR1 := Lib.hid hr1
  have hc1m : c1 ≤ 9223372036854775807 := by unfold maxLen at hm1; omega
  clear hr1 ha1 hr h hct hcl hcur hl1 ht1 hlen hsrc hrow hb1
  have HS := Lib.hid (And.intro hnl hm); clear hnl hm
  have hge : ¬ ((i : Int) + m < n) := by omega
  go_enter Try.func88, Try.ntmps88
  go_wp2_with (refine ev_list (o := ⟨some 34, _, _, _, _, _⟩) rfl (exec_append rfl rfl rfl (HR1.out _)) ?_)
  go_ret
  exact ⟨_, rfl, HP.out⟩

theorem wrapi {x : Int} (h : -9223372036854775808 ≤ x ∧ x ≤ 9223372036854775807) : IntKind.i64.wrap x = x := by rw [IntKind.wrap_i64]; omega
theorem Chg.undrewN {M : Nat → Prop} {w w' : World} {k : Nat} (h : Chg M (w.drewN k) w') : Chg M w w' := ⟨h.os, h.tape, h.output, h.size, h.block⟩
theorem RdSp.drewN {w : World} {A : Option Addr} {l : List Sp} (h : RdSp w A l) (k : Nat) : RdSp (w.drewN k) A l := h
theorem shrink_mem (g n c m cv i j t : Nat) (Av : Option Addr) (l ms : List Sp) (w : World) (h : SpRow w (.slice (some ⟨g, 0, none⟩) n c) l) (hi : i < j) (hj : j < n) (hm : m = ms.length) (hr : RdSp w Av ms) (hap : ∀ ad, Av = some ad → ad.block ≠ g) (hroom : i + m ≤ j) (htot : t = i + m + (n - j)) (nq : Nat) :
    ∃ w1 w2 w3, (∀ ty, (Builtin.copy_ #[22, 22] ty #[.slice (some ⟨g, i * 2, none⟩) (t - i) (c - i), .slice Av m cv]).run Try.prog (w.drewN nq) = .ok (goInt (Nat.min m (t - i) : Nat)) w1) ∧
      (∀ ty, (Builtin.copy_ #[22, 22] ty #[.slice (some ⟨g, (i + m) * 2, none⟩) (t - (i + m)) (c - (i + m)), .slice (some ⟨g, j * 2, none⟩) (n - j) (c - j)]).run Try.prog w1.drew = .ok (goInt (Nat.min (n - j) (t - (i + m)) : Nat)) w2) ∧
      (∀ ty, (Builtin.clear_ #[22] ty #[.slice (if c = t then some ⟨g, 0, none⟩ else some ⟨g, t * 2, none⟩) (n - t) (c - t)]).run Try.prog w2 = .ok (.tuple #[]) w3) ∧
      Hid (RowPost w (.slice (some ⟨g, 0, none⟩) n c) (l.take i ++ ms ++ l.drop j) w3 (.slice (some ⟨g, 0, none⟩) t c)) := by
  obtain ⟨cur, hcur, hcl, hct, hnl, hnc, hcm⟩ := h.arr
  have hll : (cellsOf (l.drop j)).length = (n - j) * 2 := by rw [cellsOf_length, List.length_drop, hnl]
  obtain ⟨w1, hr1, ha1, hc1⟩ := copy_sp (w.drewN nq) (some ⟨g, i * 2, none⟩) Av (t - i) (c - i) m cv g (i * 2) cur (cellsOf ms) hcur (by rw [cellsOf_length, nmin_l (by omega), hm])
    (fun hp => ⟨rfl, (hr.drewN nq).src (by rw [cellsOf_length] at hp; omega)⟩) (by rw [cellsOf_length]; omega) (cellsOf_one _)
  have hc1 := Chg.undrewN hc1
  have hl1 : (lay cur (i * 2) (cellsOf ms)).length = c * 2 := by rw [lay_length _ _ _ (by rw [cellsOf_length]; omega)]; exact hcl
  obtain ⟨w2, hr2, ha2, hc2⟩ := copy_sp w1.drew (some ⟨g, (i + m) * 2, none⟩) (some ⟨g, j * 2, none⟩) (t - (i + m)) (c - (i + m)) (n - j) (c - j) g ((i + m) * 2) (lay cur (i * 2) (cellsOf ms)) (cellsOf (l.drop j)) ha1
    (by rw [hll, nmin_l (by omega)])
    (fun _ => ⟨rfl, _, rfl, fun k v hk => by
      rw [show (⟨g, j * 2, none⟩ : Addr).add k = ⟨g, j * 2 + k, none⟩ by unfold Addr.add; split <;> simp_all]
      have hk' : k < (n - j) * 2 := by rw [← hll]; exact (List.getElem?_eq_some_iff.1 hk).1
      rw [ArrAt.cell (w := w1.drew) ha1, ← List.getElem?_drop, lay_drop _ _ _ _ (by rw [cellsOf_length]; omega) (by rw [cellsOf_length]; omega), ← hk, cellsOf_drop, ← hct, List.getElem?_drop, List.getElem?_drop, List.getElem?_take, if_pos (by omega)]⟩)
    (by rw [hll, hl1]; omega) (cellsOf_one _)
  have hc2 := Chg.undrew hc2
  have hl2 : (lay (lay cur (i * 2) (cellsOf ms)) ((i + m) * 2) (cellsOf (l.drop j))).length = c * 2 := by rw [lay_length _ _ _ (by rw [hll, hl1]; omega)]; exact hl1
  have hlen : (l.take i ++ ms ++ l.drop j).length = t := by simp; omega
  have ht : (lay (lay cur (i * 2) (cellsOf ms)) ((i + m) * 2) (cellsOf (l.drop j))).take (t * 2) = cellsOf (l.take i ++ ms ++ l.drop j) := by
    have := lay_new cur (cellsOf (l.take i)) (cellsOf ms) (cellsOf (l.drop j)) (i * 2) (m * 2) (by rw [cellsOf_take, ← hct, List.take_take, Nat.min_eq_left (by omega)]) (by rw [hll]; omega) (by rw [cellsOf_length, hm])
    rw [hll, ← Nat.add_mul, ← Nat.add_mul, ← htot] at this
    rw [this, cellsOf_append, cellsOf_append]
  obtain ⟨w3, cs3, hr3, hcs3, ha3, hc3⟩ := clear_sp w2 (n - t) (c - t) g (t * 2) (if c = t then some ⟨g, 0, none⟩ else some ⟨g, t * 2, none⟩) _ ha2 (fun hp => by rw [if_neg (by omega)]) (by rw [hl2]; omega)
  have HP : Hid (RowPost w (.slice (some ⟨g, 0, none⟩) n c) (l.take i ++ ms ++ l.drop j) w3 (.slice (some ⟨g, 0, none⟩) t c)) := by
    refine ⟨?_, ((hc1.trans hc2 (fun _ _ h => h)).trans hc3 (fun _ _ h => h)).mono (fun k h => by simp [Value.ownBlock, h]), .inl rfl⟩
    have := SpRow.mk_arr (cap := c) (l := l.take i ++ ms ++ l.drop j) ha3 (by rw [lay_length _ _ _ (by rw [hl2, hcs3]; omega)]; exact hl2) (by rw [lay_take _ _ _ _ (by rw [hlen]; exact Nat.le_refl _) (by rw [hl2]; omega), hlen]; exact ht) (by omega) hcm
    rw [hlen] at this; exact this
  exact ⟨w1, w2, w3, hr1, hr2, hr3, HP⟩

set_option maxRecDepth 100000 in
set_option maxHeartbeats 4000000 in
theorem replace_shrink (g n c m cv i j : Nat) (Av : Option Addr) (l ms : List Sp) (w : World) (h : SpRow w (.slice (some ⟨g, 0, none⟩) n c) l) (hi : i < j) (hj : j < n) (hm : m = ms.length) (hr : RdSp w Av ms) (hap : ∀ ad, Av = some ad → ad.block ≠ g) (hroom : i + m ≤ j) :
    Calls Try.prog 88 #[.slice (some ⟨g, 0, none⟩) n c, .int .i64 i, .int .i64 j, .slice Av m cv] w (Becomes w (.slice (some ⟨g, 0, none⟩) n c) (l.take i ++ ms ++ l.drop j)) := by
  obtain ⟨t, htot⟩ : ∃ t, t = i + m + (n - j) := ⟨_, rfl⟩
  have HB := Lib.hid (shrink_mem g n c m cv i j t Av l ms w h hi hj hm hr hap hroom htot)
  obtain ⟨cur, hcur, hcl, hct, hnl, hnc, hcm⟩ := h.arr
  have hc : c ≤ 9223372036854775807 := by unfold maxLen at hcm; omega
  have hij0 : ((i : Int) == j) = false := by rw [beq_eq_false_iff_ne]; omega
  have hci : ¬ c = i := by omega
  have hjn : ((j : Int) == n) = false := by rw [beq_eq_false_iff_ne]; omega
  have hcj : ¬ c = j := by omega
  have hcim : ¬ c = i + m := by omega
  clear hr h hct hcl hcur hap
  have HS := Lib.hid (And.intro hnl hm); clear hnl hm
  have htle : t ≤ n := by omega
  have hti : i ≤ t := by omega
  have htim : i + m ≤ t := by omega
  have hjle : j ≤ n := by omega
  have hile : i ≤ n := by omega
  have e1 : ((i : Int) + (m : Int)) + (((n - j : Nat) : Nat) : Int) = (t : Int) := by omega
  have hw1 : IntKind.i64.wrap ((i : Int) + (m : Int)) = (i : Int) + (m : Int) := wrapi (by omega)
  have hw2 : IntKind.i64.wrap (t : Int) = (t : Int) := wrapi (by omega)
  have htn : ((i : Int) + (m : Int)).toNat = i + m := by omega
  have HT := Lib.hid htot; clear htot
  go_enter Try.func88, Try.ntmps88
  go_wp2_with fail
  go_quiet (fail)
  obtain ⟨w1, w2, w3, hr1, hr2, hr3, HP⟩ := HB.out nq
  have HR1 := Lib.hid hr1; have HR2 := Lib.hid hr2; have HR3 := Lib.hid hr3
  clear hr1 hr2 hr3 HB
  have hge : ¬ ((c : Int) < t) := by omega
  have hle : (i : Int) + m ≤ j := by omega
  go_wp2_with (first | (refine ev_list (o := ⟨some 97, _, _, _, _, _⟩) rfl (exec_copy rfl rfl rfl (HR1.out _)) ?_))
  have hb1 : (0 : Int) ≤ (i : Int) + m := by omega
  have hb2 : (i : Int) + m ≤ t := by omega
  go_region_law (refine ev_step rfl (exec_copy rfl (by simp [Act.eval, Act.put]) (by simp [Act.eval, Act.put]) (HR2.out _)) ?_)
  clear hw1 hw2 htn e1 HR1 HR2
  by_cases hcet : c = t
  · subst hcet
    have HR3' := HR3.out
    rw [if_pos rfl] at HR3'
    simp only [show n - c = 0 by omega, Nat.sub_self] at HR3'
    have HR4 := Lib.hid HR3'; clear HR3' HR3
    go_wp2_with (refine ev_list (o := ⟨none, .call { callee := .builtin .clear, args := _, argTypes := _ }, _, _, _, _⟩) rfl (exec_clear rfl rfl (HR4.out _)) ?_)
    go_ret
    exact ⟨_, rfl, HP.out⟩
  · have HR3' := HR3.out
    rw [if_neg hcet] at HR3'
    have HR4 := Lib.hid HR3'; clear HR3' HR3
    go_wp2_with (refine ev_list (o := ⟨none, .call { callee := .builtin .clear, args := _, argTypes := _ }, _, _, _, _⟩) rfl (exec_clear rfl rfl (HR4.out _)) ?_)
    go_ret
    exact ⟨_, rfl, HP.out⟩
end Go.Proofs.Ytcifbcdjkofomaa
