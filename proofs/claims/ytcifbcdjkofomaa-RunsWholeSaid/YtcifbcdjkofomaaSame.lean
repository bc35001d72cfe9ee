/-
  slices.Collect, slices.Equal, Same of two sets. Conditions: the iterators keep their contracts.
-/
import Derived.Test.YtcifbcdjkofomaaColl
import Derived.Laws.StructEq
namespace Go.Proofs.Ytcifbcdjkofomaa
open Go.RowKit Go.Shelf
set_option linter.unusedVariables false
set_option linter.unusedSimpArgs false


theorem run_equal24 (a b c d : Int) (w : World) : (Op.equalIn 10000 24 (.agg #[.int .i64 a, .int .i64 b]) (.agg #[.int .i64 c, .int .i64 d])).run Try.prog w = .ok (a == c && b == d) w := by
  have u3 := Try.underlying3
  have a3 := Try.isAgg3
  have z3 := Try.sizeOf3
  have hS : Try.prog.underlying 24 = some (.struct (Try.prog.fieldsOf 24)) := by kernel_rfl
  have hp : Try.prog.stoodInHeld 24 = false := by kernel_rfl
  rw [show (10000 : Nat) = 9999 + 1 from rfl, run_equalIn_agg w 9999 24 _ _ hS hp]
  simp only [Program.fieldsOf, Try.underlying24]
  go_simp
  by_cases h1 : a = c <;> by_cases h2 : b = d <;> simp [h1, h2]
theorem run_neq24 (a b c d : Int) (w : World) : (binOp .neq 24 (.agg #[.int .i64 a, .int .i64 b]) (.agg #[.int .i64 c, .int .i64 d])).run Try.prog w = .ok (.bool (!(a == c && b == d))) w := by
  rw [run_neq_struct, run_equal24]; rfl
theorem run_eql24 (a b c d : Int) (w : World) : (binOp .eql 24 (.agg #[.int .i64 a, .int .i64 b]) (.agg #[.int .i64 c, .int .i64 d])).run Try.prog w = .ok (.bool (a == c && b == d)) w := by
  rw [run_eql_struct, run_equal24]; rfl
theorem run_guard24 (op : BinOp) (x y : Operand) (xs ys : Array Value) (w : World) : (eqGuard op 24 x y (.agg xs) (.agg ys)).run Try.prog w = .ok () w := run_eqGuard_agg w op 24 x y xs ys (by kernel_rfl)
attribute [local go_sem ↓] run_neq24 run_eql24 run_guard24
theorem collect_any (gf : Nat) (lb : Array Value) (L : List Sp) (K : Nat → Prop) (w : World) (hL : L.length ≤ 1000000) (hK : ∀ k, K k → k < w.heap.size)
    (eg : ∀ args w, (callFunc gf args).run Try.prog w = .ok (.enter gf args) w) (hG : ∀ m, Hid (5 ≤ m) → Gives m gf lb K L w) :
    Calls Try.prog 73 #[.func (.func gf) #[] lb] w fun e w' => ∃ v, e = .returned v ∧ SpRow w' v L ∧ (∀ k, v.ownBlock = some k → w.heap.size ≤ k) ∧ Below w.heap.size w w' := by
  have H := Lib.hid (appendSeq_nil gf lb L K w hL hK eg hG)
  clear hL hK eg hG
  go_enter Try.func73, Try.ntmps73
  go_wp2_with fail
  go_at_call 96
  refine H.out.mono ?_
  rintro e w1 ⟨v, rfl, h1, h2, h3⟩
  obtain ⟨N, A', c', rfl⟩ : ∃ N A' c', v = .slice A' N c' := by
    obtain ⟨A', c', e, _, _⟩ := h1.form
    exact ⟨_, A', c', e⟩
  have HP := Lib.hid (And.intro h1 (And.intro h2 h3)); clear h1 h2 h3
  go_wp2_with fail
  go_ret
  exact ⟨_, rfl, HP.out⟩

set_option maxRecDepth 100000 in
set_option maxHeartbeats 4000000 in
theorem equal_any {w : World} {A B : Option Addr} {n m c d : Nat} {l k : List Sp} (hl : SpRow w (.slice A n c) l) (hk : SpRow w (.slice B m d) k) :
    Calls Try.prog 72 #[.slice A n c, .slice B m d] w fun e w' => e = .returned (.bool (decide (l = k))) ∧ Below w.heap.size w w' := by
  have hln := hl.len
  have hkn := hk.len
  have H := Lib.hid (And.intro hl (And.intro hk (And.intro hln hkn)))
  have hc1 : n ≤ c := by omega
  have hc2 : m ≤ d := by omega
  have hc3 : c ≤ 9223372036854775807 := hln.2.2
  have hc4 : d ≤ 9223372036854775807 := hkn.2.2
  by_cases hnm : n = m
  · have HN := Lib.hid hnm
    have hlk : l.length = k.length := by omega
    have HL := Lib.hid hlk
    have hq : ((n : Int) == m) = true := by rw [beq_iff_eq]; omega
    subst hnm
    clear hl hk hln hkn hlk
    go_enter Try.func72, Try.ntmps72
    go_wp2_with fail
    go_loopw [13] (fun i wr => ∃ t : Nat, i = .int .i64 t ∧ t ≤ n ∧ Hid (Below w.heap.size w wr) ∧ Hid (l.take t = k.take t))
      (fun i _ => n - (intOf i).toNat)
    case atStart => exact ⟨0, rfl, Nat.zero_le _, Below.refl _ _, rfl⟩
    case round =>
      obtain ⟨t, rfl, ht, HB, HE⟩ := hrel
      by_cases hlt : t < n
      · have rA := (H.out.1.below HB.out).reads
        have rB := (H.out.2.1.below HB.out).reads
        have hl1 : t < l.length := by have := H.out.2.2.1.1; omega
        have hk1 : t < k.length := by have := H.out.2.2.2.1; omega
        obtain ⟨ga, oa, rfl, ra⟩ : ∃ g o, A = some ⟨g, o, none⟩ ∧ ∀ (i : Nat) (h : i < l.length), wr.cell? ⟨g, o + i * 2, none⟩ = some (.int .i64 l[i].1) ∧ wr.cell? ⟨g, o + (i * 2 + 1), none⟩ = some (.int .i64 l[i].2) := by
          rcases rA with h | h
          · rw [h] at hl1; simp at hl1
          · exact h
        obtain ⟨gb, ob, rfl, rb⟩ : ∃ g o, B = some ⟨g, o, none⟩ ∧ ∀ (i : Nat) (h : i < k.length), wr.cell? ⟨g, o + i * 2, none⟩ = some (.int .i64 k[i].1) ∧ wr.cell? ⟨g, o + (i * 2 + 1), none⟩ = some (.int .i64 k[i].2) := by
          rcases rB with h | h
          · rw [h] at hk1; simp at hk1
          · exact h
        have a0 := (ra t hl1).1; have a1 := (ra t hl1).2
        have b0 := (rb t hk1).1; have b1 := (rb t hk1).2
        rw [← Nat.add_assoc] at a1 b1
        clear ra rb rA rB
        obtain ⟨x, hx⟩ : ∃ x, x = l[t] := ⟨_, rfl⟩
        obtain ⟨y, hy⟩ : ∃ y, y = k[t] := ⟨_, rfl⟩
        rw [← hx] at a0 a1; rw [← hy] at b0 b1
        have HXY := Lib.hid (And.intro hx hy)
        clear hx hy
        have hlt' : (t : Int) < n := by omega
        by_cases hxy : x = y
        · subst hxy
          go_wp2_with fail
          go_quiet (fail)
          go_wp2_with fail
          refine ⟨⟨t + 1, by go_num, by omega, Below.drewN_ HB.out _, show _ = _ from ?_⟩, show n - ((t : Int) + 1).toNat < n - (t : Int).toNat by omega⟩
          rw [List.take_succ_eq_append_getElem hl1, List.take_succ_eq_append_getElem hk1, HE.out, ← HXY.out.1, ← HXY.out.2]
        · have hne : (x.1 == y.1 && x.2 == y.2) = false := by
            rw [Bool.and_eq_false_iff, beq_eq_false_iff_ne, beq_eq_false_iff_ne]
            by_cases h : x.1 = y.1
            · exact .inr (fun h2 => hxy (Prod.ext h h2))
            · exact .inl h
          have hd : decide (l = k) = false := decide_eq_false (fun e => hxy (by rw [HXY.out.1, HXY.out.2]; simp only [e]))
          have HD := Lib.hid hd; clear hd hxy
          go_wp2_with fail
          go_quiet (fail)
          go_wp2_with fail
          go_ret
          rw [HD.out]
          exact ⟨rfl, Below.drewN_ HB.out _⟩
      · obtain rfl : t = n := by omega
        have hfin : decide (l = k) = true := by
          have := HE.out
          rw [List.take_of_length_le (by have := H.out.2.2.1.1; omega), List.take_of_length_le (by have := H.out.2.2.2.1; omega)] at this
          exact decide_eq_true this
        have HD := Lib.hid hfin; clear hfin
        go_wp2_with fail
        go_ret
        rw [HD.out]
        exact ⟨rfl, HB.out⟩
  · have hq : ((n : Int) == m) = false := by rw [beq_eq_false_iff_ne]; omega
    have hd : decide (l = k) = false := decide_eq_false (fun e => hnm (by rw [hln.1, hkn.1, e]))
    rw [hd]
    clear hl hk hln hkn
    go_enter Try.func72, Try.ntmps72
    go_wp2_with fail
    go_ret
    exact ⟨rfl, by (repeat (with_reducible first | exact Below.refl _ _ | assumption | (refine Below.setCell ?_ (by first | (simp; done) | (simp; omega) | omega) _) | (refine Below.alloc ?_ (by first | (simp; done) | (simp; omega) | omega) _) | refine Below.drew ?_ | refine Below.drewN_ ?_ _ | (refine Below.then_ ?_ (by with_reducible assumption))))⟩

/-- A set, or none. -/
def SetP (w : World) (p : Option Addr) (l : List Sp) : Prop := (p = none ∧ l = []) ∨ ∃ b v, p = some ⟨b, 0, none⟩ ∧ IsRuns w b v l
theorem SetP.below {w w' : World} {p : Option Addr} {l : List Sp} (h : SetP w p l) (hb : Below w.heap.size w w') : SetP w' p l := by
  rcases h with h | ⟨b, v, e, h⟩
  · exact .inl h
  · exact .inr ⟨b, v, e, h.below hb⟩
theorem collect_all {w : World} {p : Option Addr} {l : List Sp} (h : SetP w p l) (hl : l.length ≤ 1000000) (br : Nat) (hr : w.heap[br]? = some (.cells #[.pointer p] 26 (0, 0))) :
    Calls Try.prog 73 #[.func (.func 61) #[] #[.pointer (some ⟨br, 0, none⟩)]] w fun e w' => ∃ v, e = .returned v ∧ SpRow w' v l ∧ (∀ k, v.ownBlock = some k → w.heap.size ≤ k) ∧ Below w.heap.size w w' := by
  rcases h with ⟨rfl, rfl⟩ | ⟨b, v, rfl, h⟩
  · exact collect_any 61 _ [] (fun _ => False) w hl (fun _ h => h.elim) (enters_of Try.func61 (by kernel_rfl) rfl) (fun m hm => gives_of_stopsNil _ (allNil_stops m br w hr))
  · exact collect_any 61 _ l (allK br b v) w hl (AllOf.lt ⟨h, hr⟩) (enters_of Try.func61 (by kernel_rfl) rfl) (fun m hm => all_gives m br b v l (by omega) _ (fun _ h => h) w ⟨h, hr⟩)
set_option maxRecDepth 100000 in
theorem same_any {w : World} {p q : Option Addr} {l k : List Sp} (hp : SetP w p l) (hq : SetP w q k) (hl : l.length ≤ 1000000) (hk : k.length ≤ 1000000) :
    Calls Try.prog 38 #[.pointer p, .pointer q] w fun e w' => e = .returned (.bool (decide (l = k))) ∧ Below w.heap.size w w' := by
  have H := Lib.hid (And.intro hp (And.intro hq (And.intro hl hk))); clear hp hq hl hk
  go_enter Try.func38, Try.ntmps38
  go_wp2_with fail
  go_at_call 19
  refine (all_any p _).mono ?_
  rintro e w1 ⟨rfl, hw1⟩
  have hB1 : Below w.heap.size w w1 := by rw [hw1]; exact Below.one _ _
  have hr1 : w1.heap[w.heap.size]? = some (.cells #[.pointer p] 26 (0, 0)) := by rw [hw1]; exact World.alloc_heap_new w _
  clear hw1
  have H1 := Lib.hid (And.intro hB1 hr1); clear hB1 hr1
  go_wp2_with fail
  go_at_call 73
  refine (collect_all (H.out.1.below H1.out.1) H.out.2.2.1 w.heap.size H1.out.2).mono ?_
  rintro e w2 ⟨va, rfl, hra, hoa, hb2⟩
  obtain ⟨N, A, c, rfl⟩ : ∃ N A c, va = .slice A N c := by
    obtain ⟨A', c', e, _, _⟩ := hra.form
    exact ⟨_, A', c', e⟩
  have H2 := Lib.hid (And.intro hra (Below.then_ H1.out.1 hb2)); clear hra hoa hb2
  go_wp2_with fail
  go_at_call 19
  refine (all_any q _).mono ?_
  rintro e w3 ⟨rfl, hw3⟩
  have hB3 : Below w2.heap.size w2 w3 := by rw [hw3]; exact Below.one _ _
  have hr3 : w3.heap[w2.heap.size]? = some (.cells #[.pointer q] 26 (0, 0)) := by rw [hw3]; exact World.alloc_heap_new w2 _
  clear hw3
  have H3 := Lib.hid (And.intro hB3 hr3); clear hB3 hr3
  go_wp2_with fail
  go_at_call 73
  refine (collect_all ((H.out.2.1.below H2.out.2).below H3.out.1) H.out.2.2.2 w2.heap.size H3.out.2).mono ?_
  rintro e w4 ⟨vb, rfl, hrb, hob, hb4⟩
  obtain ⟨M, B, d, rfl⟩ : ∃ N A c, vb = .slice A N c := by
    obtain ⟨A', c', e, _, _⟩ := hrb.form
    exact ⟨_, A', c', e⟩
  have H4 := Lib.hid (And.intro hrb (And.intro ((H2.out.1.below H3.out.1).below hb4) (Below.then_ H2.out.2 (Below.then_ H3.out.1 hb4)))); clear hrb hob hb4
  go_wp2_with fail
  go_at_call 72
  refine (equal_any H4.out.2.1 H4.out.1).mono ?_
  rintro e w5 ⟨rfl, hb5⟩
  have H5 := Lib.hid hb5; clear hb5
  go_wp2_with fail
  go_ret
  exact ⟨rfl, Below.then_ H4.out.2.2 H5.out⟩
end Go.Proofs.Ytcifbcdjkofomaa
