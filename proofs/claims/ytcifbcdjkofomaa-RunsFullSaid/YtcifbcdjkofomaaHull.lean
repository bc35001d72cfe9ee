/-
  The least span that holds all of some. Conditions: each has offsets.
-/
import Derived.Test.YtcifbcdjkofomaaWithin
namespace Go.Proofs.Ytcifbcdjkofomaa
open Go.RowKit Go.Shelf
set_option linter.unusedVariables false
set_option linter.unusedSimpArgs false

attribute [local go_sem] run_min run_max run_field24_0 run_field24_1

def Okay (x : Sp) : Prop := 0 ≤ x.1 ∧ x.1 < x.2 ∧ x.2 ≤ 4611686018427387904
theorem pln_okay {x : Sp} (h : Okay x) : pln x.1 x.2 = x := pln_pos (by simp [mayB]; unfold Okay at h; omega) (by unfold Okay at h; omega)
def join2 (o s : Sp) : Sp := (min o.1 s.1, max o.2 s.2)
def hull1 : List Sp → Sp
  | [] => (0, 0)
  | x :: l => l.foldl join2 x
theorem hull1_one (x : Sp) : hull1 [x] = x := rfl
theorem hull1_snoc (l : List Sp) (x : Sp) (h : l ≠ []) : hull1 (l ++ [x]) = join2 (hull1 l) x := by
  cases l with
  | nil => exact absurd rfl h
  | cons y l => simp [hull1]
theorem okay_join {a b : Sp} (ha : Okay a) (hb : Okay b) : Okay (join2 a b) := by unfold Okay join2 at *; simp only; omega
theorem foldl_okay (l : List Sp) : ∀ a, Okay a → (∀ x ∈ l, Okay x) → Okay (l.foldl join2 a) := by
  induction l with
  | nil => intro a ha _; exact ha
  | cons x l ih => intro a ha h; exact ih _ (okay_join ha (h x List.mem_cons_self)) (fun y hy => h y (List.mem_cons_of_mem _ hy))
theorem hull1_okay {l : List Sp} (h : ∀ x ∈ l, Okay x) (hne : l ≠ []) : Okay (hull1 l) := by
  cases l with
  | nil => exact absurd rfl hne
  | cons x l => exact foldl_okay l x (h x List.mem_cons_self) (fun y hy => h y (List.mem_cons_of_mem _ hy))

theorem none_okay {x : Sp} (h : Okay x) (w : World) : Calls Try.prog 87 #[.agg #[.int .i64 x.1, .int .i64 x.2]] w fun e w' => e = .returned (.bool false) ∧ Below w.heap.size w w' := by
  have := none_any x.1 x.2 w
  rw [pln_okay h] at this
  rw [show decide (x.1 = 0 ∧ x.2 = 0) = false from decide_eq_false (by unfold Okay at h; omega)] at this
  exact this
theorem none_zero (w : World) : Calls Try.prog 87 #[.agg #[.int .i64 0, .int .i64 0]] w fun e w' => e = .returned (.bool true) ∧ Below w.heap.size w w' := none_any 0 0 w
theorem hull1_take (ms : List Sp) (k : Nat) (h : k < ms.length) (hk : 0 < k) : hull1 (ms.take (k + 1)) = join2 (hull1 (ms.take k)) ms[k] := by
  rw [List.take_succ_eq_append_getElem h, hull1_snoc _ _ (by intro e; have := congrArg List.length e; rw [List.length_take, List.length_nil] at this; omega)]
theorem hull1_first (ms : List Sp) (h : 0 < ms.length) : hull1 (ms.take (0 + 1)) = ms[0] := by
  cases ms with
  | nil => simp at h
  | cons x l => rfl
set_option maxRecDepth 100000 in
set_option maxHeartbeats 4000000 in
theorem hull_any (A : Option Addr) (c : Nat) (ms : List Sp) (w : World) (hr : RdSp w A ms) (hc : ms.length ≤ c) (hm : ms.length ≤ 4611686018427387904) (hok : ∀ x ∈ ms, Okay x) :
    Calls Try.prog 55 #[.slice A ms.length c] w fun e w' => e = .returned (.agg #[.int .i64 (hull1 ms).1, .int .i64 (hull1 ms).2]) ∧ Below w.heap.size w w' := by
  have HR := Lib.hid hr; clear hr
  have HO := Lib.hid hok; clear hok
  have hu24 := Try.underlying24
  go_enter Try.func55, Try.ntmps55
  go_wp2_with fail
  go_outline
  go_loopw [8] (fun i wr => ∃ k : Nat, i = .int .i64 k ∧ k ≤ ms.length ∧ Hid (Below w.heap.size w wr) ∧ w.heap.size + 2 ≤ wr.heap.size ∧
      (wr.cell? ⟨w.heap.size + 1, 0, none⟩ = some (.int .i64 (hull1 (ms.take k)).1) ∧ wr.cell? ⟨w.heap.size + 1, 1, none⟩ = some (.int .i64 (hull1 (ms.take k)).2) ∧ wr.frozen? ⟨w.heap.size + 1, 0, none⟩ = false ∧ wr.frozen? ⟨w.heap.size + 1, 1, none⟩ = false) ∧
      (wr.cell? ⟨w.heap.size, 0, none⟩ = some (.int .i64 0) ∧ wr.cell? ⟨w.heap.size, 1, none⟩ = some (.int .i64 0) ∧ wr.frozen? ⟨w.heap.size, 0, none⟩ = false ∧ wr.frozen? ⟨w.heap.size, 1, none⟩ = false))
    (fun i _ => ms.length - (intOf i).toNat)
  case atStart => exact ⟨0, rfl, Nat.zero_le _, show Below _ _ _ by (repeat (with_reducible first | exact Below.refl _ _ | assumption | (refine Below.setCell ?_ (by first | (simp; done) | (simp; omega) | omega) _) | (refine Below.alloc ?_ (by first | (simp; done) | (simp; omega) | omega) _) | refine Below.drew ?_ | refine Below.drewN_ ?_ _ | (refine Below.then_ ?_ (by with_reducible assumption)))), by simp, ⟨by go_simp; rfl, by go_simp; rfl, by go_simp, by go_simp⟩, ⟨by go_simp, by go_simp, by go_simp, by go_simp⟩⟩
  case round =>
    obtain ⟨k, rfl, hk, HB, hz, ⟨o0, o1, of_, og⟩, ⟨r0, r1, rf, rg⟩⟩ := hrel
    by_cases hlt : k < ms.length
    · obtain ⟨g, o, rfl, hrd⟩ : ∃ g o, A = some ⟨g, o, none⟩ ∧ ∀ (i : Nat) (h : i < ms.length), wr.cell? ⟨g, o + i * 2, none⟩ = some (.int .i64 ms[i].1) ∧ wr.cell? ⟨g, o + (i * 2 + 1), none⟩ = some (.int .i64 ms[i].2) := by
        rcases (HR.out.below HB.out) with h | h
        · rw [h] at hlt; simp at hlt
        · exact h
      have d5 := (hrd k hlt).1
      have d6 := (hrd k hlt).2
      rw [← Nat.add_assoc] at d6
      have hgs := World.block_lt_of_cell? wr _ d5
      have hxo := HO.out ms[k] (List.getElem_mem hlt)
      clear hrd
      obtain ⟨x, hx⟩ : ∃ x, x = ms[k] := ⟨_, rfl⟩
      rw [← hx] at d5 d6 hxo
      have HX := Lib.hid (And.intro hx hxo); clear hx hxo
      have hq0 : w.heap.size < wr.heap.size := by omega
      have hq1 : w.heap.size + 1 < wr.heap.size := by omega
      obtain ⟨H, hH⟩ : ∃ H, H = hull1 (ms.take k) := ⟨_, rfl⟩
      rw [← hH] at o0 o1
      have HN : Hid ((k = 0 ∧ ∀ w, Calls Try.prog 87 #[.agg #[.int .i64 H.1, .int .i64 H.2]] w fun e w' => e = .returned (.bool true) ∧ Below w.heap.size w w') ∨ (0 < k ∧ Okay H ∧ ∀ w, Calls Try.prog 87 #[.agg #[.int .i64 H.1, .int .i64 H.2]] w fun e w' => e = .returned (.bool false) ∧ Below w.heap.size w w')) := by
        refine Lib.hid ?_
        rcases Nat.eq_zero_or_pos k with rfl | hk0
        · left; rw [hH]; exact ⟨rfl, none_zero⟩
        · right
          have : Okay H := by rw [hH]; exact hull1_okay (fun x hx => HO.out x (List.mem_of_mem_take hx)) (by intro e; have := congrArg List.length e; rw [List.length_take, List.length_nil] at this; omega)
          exact ⟨hk0, this, none_okay this⟩
      have HHH := Lib.hid hH; clear hH
      go_wp2_with fail
      go_at_call 87
      refine (none_okay HX.out.2 _).mono ?_
      rintro e w2 ⟨rfl, hb2⟩
      have a0 := Below.cell' hb2 (p := ⟨wr.heap.size, 0, none⟩) (v := .int .i64 x.1) (by go_simp); have a1 := Below.cell' hb2 (p := ⟨wr.heap.size, 1, none⟩) (v := .int .i64 x.2) (by go_simp); have af := Below.frozen' hb2 (p := ⟨wr.heap.size, 0, none⟩) (v := .int .i64 x.1) (by go_simp) (by go_simp); have ag := Below.frozen' hb2 (p := ⟨wr.heap.size, 1, none⟩) (v := .int .i64 x.2) (by go_simp) (by go_simp); have b0 := Below.cell' hb2 (p := ⟨(w.heap.size + 1), 0, none⟩) (v := .int .i64 H.1) (by go_simp); have b1 := Below.cell' hb2 (p := ⟨(w.heap.size + 1), 1, none⟩) (v := .int .i64 H.2) (by go_simp); have bf := Below.frozen' hb2 (p := ⟨(w.heap.size + 1), 0, none⟩) (v := .int .i64 H.1) (by go_simp) (by go_simp); have bg := Below.frozen' hb2 (p := ⟨(w.heap.size + 1), 1, none⟩) (v := .int .i64 H.2) (by go_simp) (by go_simp); have c0 := Below.cell' hb2 (p := ⟨w.heap.size, 0, none⟩) (v := .int .i64 0) (by go_simp); have c1 := Below.cell' hb2 (p := ⟨w.heap.size, 1, none⟩) (v := .int .i64 0) (by go_simp); have cf := Below.frozen' hb2 (p := ⟨w.heap.size, 0, none⟩) (v := .int .i64 0) (by go_simp) (by go_simp); have cg := Below.frozen' hb2 (p := ⟨w.heap.size, 1, none⟩) (v := .int .i64 0) (by go_simp) (by go_simp); have hz2 := hb2.size; (try simp only [World.size_alloc, World.size_setCell] at hz2)
      have HB2 : Hid (Below wr.heap.size wr w2) := show Below _ _ _ from Below.then_ (by (repeat (with_reducible first | exact Below.refl _ _ | assumption | (refine Below.setCell ?_ (by first | (simp; done) | (simp; omega) | omega) _) | (refine Below.alloc ?_ (by first | (simp; done) | (simp; omega) | omega) _) | refine Below.drew ?_ | refine Below.drewN_ ?_ _ | (refine Below.then_ ?_ (by with_reducible assumption))))) hb2
      clear hb2 o0 o1 of_ og r0 r1 rf rg d5 d6
      go_wp2_with fail
      rcases HN.out with ⟨hk0, hn⟩ | ⟨hk0, hoH, hn⟩
      · refine (hn _).mono ?_
        rintro e w3 ⟨rfl, hb3⟩
        have u0 := Below.cell' hb3 (p := ⟨wr.heap.size, 0, none⟩) (v := .int .i64 x.1) (by go_simp); have u1 := Below.cell' hb3 (p := ⟨wr.heap.size, 1, none⟩) (v := .int .i64 x.2) (by go_simp); have uf := Below.frozen' hb3 (p := ⟨wr.heap.size, 0, none⟩) (v := .int .i64 x.1) (by go_simp) (by go_simp); have ug := Below.frozen' hb3 (p := ⟨wr.heap.size, 1, none⟩) (v := .int .i64 x.2) (by go_simp) (by go_simp); have v0 := Below.cell' hb3 (p := ⟨(w.heap.size + 1), 0, none⟩) (v := .int .i64 H.1) (by go_simp); have v1 := Below.cell' hb3 (p := ⟨(w.heap.size + 1), 1, none⟩) (v := .int .i64 H.2) (by go_simp); have vf := Below.frozen' hb3 (p := ⟨(w.heap.size + 1), 0, none⟩) (v := .int .i64 H.1) (by go_simp) (by go_simp); have vg := Below.frozen' hb3 (p := ⟨(w.heap.size + 1), 1, none⟩) (v := .int .i64 H.2) (by go_simp) (by go_simp); have t0 := Below.cell' hb3 (p := ⟨w.heap.size, 0, none⟩) (v := .int .i64 0) (by go_simp); have t1 := Below.cell' hb3 (p := ⟨w.heap.size, 1, none⟩) (v := .int .i64 0) (by go_simp); have tf := Below.frozen' hb3 (p := ⟨w.heap.size, 0, none⟩) (v := .int .i64 0) (by go_simp) (by go_simp); have tg := Below.frozen' hb3 (p := ⟨w.heap.size, 1, none⟩) (v := .int .i64 0) (by go_simp) (by go_simp); have hz3 := hb3.size; (try simp only [World.size_alloc, World.size_setCell] at hz3)
        have HB3 := Lib.hid hb3
        clear hb3 a0 a1 af ag b0 b1 bf bg c0 c1 cf cg
        go_wp2_with fail
        have hbw : Below w.heap.size w w3 := Below.then_ HB.out (Below.then_ HB2.out HB3.out)
        have hzz := hbw.size
        have hs2 := HB2.out.size
        have hs3 := HB3.out.size
        have hkey : hull1 (ms.take (k + 1)) = x := by
          subst hk0; rw [HX.out.1]; exact hull1_first ms hlt
        clear HR HX HHH HN
        refine ⟨⟨k + 1, by subst hk0; rfl, hlt, Below.setCell (Below.setCell hbw (by simp) _) (by simp) _, by simp; omega, ⟨by rw [hkey]; go_simp, by rw [hkey]; go_simp, by go_simp, by go_simp⟩, ⟨by go_simp, by go_simp, by go_simp, by go_simp⟩⟩, show ms.length - (1 : Int).toNat < ms.length - (k : Int).toNat by omega⟩
      · refine (hn _).mono ?_
        rintro e w3 ⟨rfl, hb3⟩
        have u0 := Below.cell' hb3 (p := ⟨wr.heap.size, 0, none⟩) (v := .int .i64 x.1) (by go_simp); have u1 := Below.cell' hb3 (p := ⟨wr.heap.size, 1, none⟩) (v := .int .i64 x.2) (by go_simp); have uf := Below.frozen' hb3 (p := ⟨wr.heap.size, 0, none⟩) (v := .int .i64 x.1) (by go_simp) (by go_simp); have ug := Below.frozen' hb3 (p := ⟨wr.heap.size, 1, none⟩) (v := .int .i64 x.2) (by go_simp) (by go_simp); have v0 := Below.cell' hb3 (p := ⟨(w.heap.size + 1), 0, none⟩) (v := .int .i64 H.1) (by go_simp); have v1 := Below.cell' hb3 (p := ⟨(w.heap.size + 1), 1, none⟩) (v := .int .i64 H.2) (by go_simp); have vf := Below.frozen' hb3 (p := ⟨(w.heap.size + 1), 0, none⟩) (v := .int .i64 H.1) (by go_simp) (by go_simp); have vg := Below.frozen' hb3 (p := ⟨(w.heap.size + 1), 1, none⟩) (v := .int .i64 H.2) (by go_simp) (by go_simp); have t0 := Below.cell' hb3 (p := ⟨w.heap.size, 0, none⟩) (v := .int .i64 0) (by go_simp); have t1 := Below.cell' hb3 (p := ⟨w.heap.size, 1, none⟩) (v := .int .i64 0) (by go_simp); have tf := Below.frozen' hb3 (p := ⟨w.heap.size, 0, none⟩) (v := .int .i64 0) (by go_simp) (by go_simp); have tg := Below.frozen' hb3 (p := ⟨w.heap.size, 1, none⟩) (v := .int .i64 0) (by go_simp) (by go_simp); have hz3 := hb3.size; (try simp only [World.size_alloc, World.size_setCell] at hz3)
        have HB3 := Lib.hid hb3
        clear hb3 a0 a1 af ag b0 b1 bf bg c0 c1 cf cg
        go_wp2_with fail
        have hbw : Below w.heap.size w w3 := Below.then_ HB.out (Below.then_ HB2.out HB3.out)
        have hzz := hbw.size
        have hs2 := HB2.out.size
        have hs3 := HB3.out.size
        have hkey : hull1 (ms.take (k + 1)) = (min H.1 x.1, max H.2 x.2) := by
          rw [hull1_take ms k hlt hk0, ← HHH.out, ← HX.out.1]; rfl
        clear HR HX HHH HN
        refine ⟨⟨k + 1, by simp, hlt, Below.setCell (Below.setCell hbw (by simp) _) (by simp) _, by simp; omega, ⟨by rw [hkey]; go_simp, by rw [hkey]; go_simp, by go_simp, by go_simp⟩, ⟨by go_simp, by go_simp, by go_simp, by go_simp⟩⟩, show ms.length - ((k : Int) + 1).toNat < ms.length - (k : Int).toNat by omega⟩
    · obtain rfl : k = ms.length := by omega
      rw [List.take_length] at o0 o1
      go_wp2_with fail
      refine bodyPost_ret (v := .agg #[.int .i64 (hull1 ms).1, .int .i64 (hull1 ms).2]) (by simp [results, Try.results55, go_sem, r0, r1, rf, rg]) rfl ⟨rfl, ?_⟩
      exact Below.setCell (Below.setCell HB.out (Nat.le_refl _) _) (Nat.le_refl _) _
end Go.Proofs.Ytcifbcdjkofomaa
