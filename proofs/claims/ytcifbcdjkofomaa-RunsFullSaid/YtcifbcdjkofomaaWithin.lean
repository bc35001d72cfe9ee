/-
  How many of a span's offsets a set of runs has. Conditions: the set is a row of spans that rise and do not touch.
-/
import Derived.Test.YtcifbcdjkofomaaWf
namespace Go.Proofs.Ytcifbcdjkofomaa
open Go.RowKit Go.Shelf
set_option linter.unusedVariables false
set_option linter.unusedSimpArgs false

attribute [local go_sem] Oper.semAt_some run_min run_max run_field24_0 run_field24_1

theorem ownFrom_chg {β : Type} {M : Nat → Prop} {w : World} {B : Nat} (hB : w.heap.size ≤ B) : OwnFrom B (fun (_ : β) W => Chg M w W) := fun s W W' row h hg hr =>
  h.trans (Chg.of_grown hg) (fun k hk e => by obtain ⟨hb, _⟩ := hr k e.symm; omega)
theorem own_at {β : Type} (b : Nat) (f : β → Obj) (hf : ∀ s, (f s).isCells = true) : Own (fun (s : β) W => W.heap[b]? = some (f s)) := fun s W W' row h hg hr => by
  refine (hg.block b (lt_of_at h) (fun e => ?_)).trans h
  obtain ⟨o, ho, hc⟩ := hr b e.symm
  rw [h] at ho; injection ho with ho
  rw [← ho, hf s] at hc; cases hc
theorem wrapEq (x : Int) : IntKind.i64.wrap x = wrap64 x := by rw [IntKind.wrap_i64]; unfold wrap64; omega
theorem keepsFrom_below {W W' : World} (h : Below W.heap.size W W') (B : Nat) : KeepsFrom B W W' := ⟨h.size, fun k o _ hk _ => Below.at' h hk⟩
theorem keepsFrom_setCell (W : World) (p : Addr) (u : Value) (B : Nat) : KeepsFrom B W (W.setCell p u) := (KeepsOthers.setCell W p u).from B

def sumW : List Sp → Int := List.foldl (fun s x => wrap64 (s + lenOf x)) 0
theorem sumW_snoc (pre : List Sp) (x : Sp) : sumW (pre ++ [x]) = wrap64 (sumW pre + lenOf x) := by simp [sumW]
theorem sumW_acc (l : List Sp) : ∀ a : Int, 0 ≤ a → a + sumLen l ≤ 4611686018427387904 → List.foldl (fun s x => wrap64 (s + lenOf x)) a l = a + sumLen l := by
  induction l with
  | nil => intro a _ _; simp [sumLen]
  | cons x l ih =>
    intro a h0 h
    rw [sumLen_cons] at h
    have h1 := lenOf_nonneg x
    have h2 := sumLen_nonneg l
    have e : wrap64 (a + lenOf x) = a + lenOf x := by unfold wrap64; omega
    rw [List.foldl_cons, e, ih _ (by omega) (by omega), sumLen_cons]; omega
theorem sumW_eq (l : List Sp) (h : sumLen l ≤ 4611686018427387904) : sumW l = sumLen l := by
  have := sumW_acc l 0 (by omega) (by omega)
  unfold sumW; rw [this]; omega
set_option maxRecDepth 100000 in
set_option maxHeartbeats 4000000 in
theorem within_any {b : Nat} {v : Value} {l : List Sp} {w : World} (h : IsRuns w b v l) (hw : WF l) (hl : l.length ≤ 4611686018427387904) (s : Sp) :
    Calls Try.prog 18 #[.pointer (some ⟨b, 0, none⟩), .agg #[.int .i64 s.1, .int .i64 s.2]] w fun e w' => e = .returned (.int .i64 (within l s)) ∧ Below w.heap.size w w' := by
  obtain ⟨n, hn⟩ : ∃ n : Nat, Hid (20 ≤ n) := ⟨20, Nat.le_refl _⟩
  refine (callsIn_wide (n := n)).1 ?_
  refine callsIn_of_wp_marks Try.func18 rfl trivial ?_ rfl
  simp only [Try.ntmps18, List.size_toArray, List.length_cons, List.length_nil, Nat.reduceAdd, Nat.reduceSub, Array.replicate_succ, Array.replicate_zero, List.push_toArray, List.append_toArray, List.nil_append, List.cons_append]
  gi_wp2_with fail
  refine ⟨trivial, (fun h => by cases h), ?_⟩; refine callsIn_wide.2 ((len_any _ _ _).mono ?_)
  rintro e w1 ⟨rfl, hb1⟩
  have x0 := Below.cell' hb1 (p := ⟨w.heap.size, 0, none⟩) (v := .int .i64 s.1) (by go_simp); have x1 := Below.cell' hb1 (p := ⟨w.heap.size, 1, none⟩) (v := .int .i64 s.2) (by go_simp); have xf := Below.frozen' hb1 (p := ⟨w.heap.size, 0, none⟩) (v := .int .i64 s.1) (by go_simp) (by go_simp); have xg := Below.frozen' hb1 (p := ⟨w.heap.size, 1, none⟩) (v := .int .i64 s.2) (by go_simp) (by go_simp); have y0 := Below.cell' hb1 (p := ⟨(w.heap.size + 1), 0, none⟩) (v := (.int .i64 0)) (by go_simp); have yf := Below.frozen' hb1 (p := ⟨(w.heap.size + 1), 0, none⟩) (v := (.int .i64 0)) (by go_simp) (by go_simp); have hz1 := hb1.size; (try simp only [World.size_alloc, World.size_setCell] at hz1)
  have HB1 : Hid (Below w.heap.size w w1) := Below.then_ (by (repeat (with_reducible first | exact Below.refl _ _ | assumption | (refine Below.setCell ?_ (by first | (simp; done) | (simp; omega) | omega) _) | (refine Below.alloc ?_ (by first | (simp; done) | (simp; omega) | omega) _) | refine Below.drew ?_ | refine Below.drewN_ ?_ _ | (refine Below.then_ ?_ (by with_reducible assumption))))) hb1
  have hE : Hid (spLen s.1 s.2 = lenOf s) := rfl
  by_cases h0 : spLen s.1 s.2 = 0
  · have hr : within l s = 0 := by unfold within lenOf; rw [if_pos h0]
    have HR := Lib.hid hr; clear hr
    gi_wp2_with fail
    rw [HR.out]
    exact ⟨_, results_tmp rfl _ _ _, rfl, HB1.out⟩
  · gi_wp2_with fail
    refine ⟨trivial, (fun h => by cases h), ?_⟩; refine callsIn_wide.2 ((meets_any (some ⟨b, 0, none⟩) s w1).mono ?_)
    rintro e w2 ⟨rfl, hw2⟩
    have hS : SeqOf w2 w1.heap.size (w1.heap.size + 1) b v l s := by
      rw [hw2]
      have hb : Below w1.heap.size w1 ((w1.alloc (.cells #[.pointer (some ⟨b, 0, none⟩)] 26)).alloc (.cells #[.int .i64 s.1, .int .i64 s.2] 24)) := by (repeat (with_reducible first | exact Below.refl _ _ | assumption | (refine Below.setCell ?_ (by first | (simp; done) | (simp; omega) | omega) _) | (refine Below.alloc ?_ (by first | (simp; done) | (simp; omega) | omega) _) | refine Below.drew ?_ | refine Below.drewN_ ?_ _ | (refine Below.then_ ?_ (by with_reducible assumption))))
      refine ⟨(h.below HB1.out).below hb, ?_, ?_⟩
      · exact (Below.heap_alloc _ _ _ (by simp)).trans (World.alloc_heap_new w1 _)
      · have := World.alloc_heap_new (w1.alloc (.cells #[.pointer (some ⟨b, 0, none⟩)] 26)) (.cells #[.int .i64 s.1, .int .i64 s.2] 24)
        rwa [World.size_alloc] at this
    have hB2 : Below w1.heap.size w1 w2 := by rw [hw2]; (repeat (with_reducible first | exact Below.refl _ _ | assumption | (refine Below.setCell ?_ (by first | (simp; done) | (simp; omega) | omega) _) | (refine Below.alloc ?_ (by first | (simp; done) | (simp; omega) | omega) _) | refine Below.drew ?_ | refine Below.drewN_ ?_ _ | (refine Below.then_ ?_ (by with_reducible assumption))))
    have hz2 : w2.heap.size = w1.heap.size + 2 := by rw [hw2]; simp
    clear hw2
    have hbx : w2.cell? ⟨w.heap.size + 1, 0, none⟩ = some (.int .i64 (sumW [])) ∧ w2.frozen? ⟨w.heap.size + 1, 0, none⟩ = false := ⟨Below.cell' hB2 y0, Below.frozen' hB2 y0 yf⟩
    have hkey : sumW (meetsL s (l.drop (firstIdx (fun y => decide (s.1 < y.2)) l))) = within l s := by
      unfold within
      rw [if_neg (by rw [← hE.out]; exact h0)]
      exact sumW_eq _ (by have := sumLen_meetsL s (l.drop (firstIdx (fun y => decide (s.1 < y.2)) l)); have := sumLen_total (hw.drop (firstIdx (fun y => decide (s.1 < y.2)) l)); omega)
    have hri : Rises l (fun y => decide (s.1 < y.2)) := hw.rises_to (fun a => decide (s.1 < a)) (fun a b h1 h2 => by simp at *; omega)
    have hbl := h.lt
    have hvl : ∀ k, v.ownBlock = some k → k < w.heap.size := fun k e => h.row.lt e
    have HX := Lib.hid (And.intro hS (And.intro hB2 (And.intro hz2 (And.intro hbx (And.intro hkey (And.intro hri (And.intro hbl hvl)))))))
    clear hS hB2 hz2 hbx h hw x0 x1 xf xg y0 yf hb1 hkey hri hbl hvl
    gi_wp2_with fail
    obtain ⟨hS, hB2, hz2, hbx, hkey, hri, hbl, hvl⟩ := HX.out
    refine wpIn_rangeFunc_ownH rfl (by have := hn.out; omega) (gf := 90) (lb := #[.pointer (some ⟨w1.heap.size, 0, none⟩), .pointer (some ⟨w1.heap.size + 1, 0, none⟩)]) rfl trivial (enters_of Try.func90 (by kernel_rfl) rfl)
      (meets1_stops (n - 1) w1.heap.size (w1.heap.size + 1) b _ v l s hl hri (firstOf_idx _ l hri) w2 hS) (fun h k => KeepB.trans h k) (KeepB.put hS.lt) (Below.refl _ _) (fun _ => rfl)
      (fun pre W => (W.cell? ⟨w.heap.size + 1, 0, none⟩ = some (.int .i64 (sumW pre)) ∧ W.frozen? ⟨w.heap.size + 1, 0, none⟩ = false) ∧ Chg (fun k => k = w.heap.size + 1) w2 W)
      (fun _ _ _ => False)
      (OwnFrom.and (Own.from (fun s A B row hs hg hr => ⟨cell_kept hs.1 hg hr, (frozen_kept hs.1 hg hr).trans hs.2⟩) _) (ownFrom_chg (Nat.le_refl _)))
      (fun _ _ _ _ _ hs _ _ => hs)
      ⟨hbx, Chg.refl _ _⟩
      (fun x a' W => ∃ Bx, w2.heap.size ≤ Bx ∧ W.heap[Bx]? = some (.cells #[.int .i64 x.1, .int .i64 x.2] 24 (0, 0)) ∧ a' = { tmps := #[.pointer (some ⟨b, 0, none⟩), .agg #[.int .i64 s.1, .int .i64 s.2], undef, .pointer (some ⟨w.heap.size, 0, none⟩), .int .i64 0, .pointer (some ⟨w.heap.size + 1, 0, none⟩), .pointer (some ⟨Bx, 0, none⟩), .agg #[.int .i64 s.1, .int .i64 s.2], .int .i64 (spLen s.1 s.2), .bool false, undef, .pointer (some ⟨b, 0, none⟩), .agg #[.int .i64 s.1, .int .i64 s.2], .func (.func 90) #[] #[.pointer (some ⟨w1.heap.size, 0, none⟩), .pointer (some ⟨w1.heap.size + 1, 0, none⟩)], .agg #[.int .i64 x.1, .int .i64 x.2], undef, undef, undef, undef, undef], defers := [] })
      ?hAx ?assign ?body ?done ?stop
    case hAx =>
      rintro x a' u A B row ⟨Bx, h1, h2, h3⟩ hg hr
      exact ⟨Bx, h1, own_at (β := Unit) Bx (fun _ => .cells #[.int .i64 x.1, .int .i64 x.2] 24 (0, 0)) (fun _ => rfl) () A B row h2 hg (fun r e => (hr r e).2), h3⟩
    case assign =>
      rintro lp pre x W K ⟨⟨hc, hf⟩, hch⟩ hK
      have HK := Lib.hid hK; clear hK
      simp only [spEnc]
      gi_wp2
      have hb : Below W.heap.size W (W.alloc (.cells #[.int .i64 x.1, .int .i64 x.2] 24)) := Below.one _ _
      exact HK.out _ _ (keepsFrom_below hb _) (KeepB.of_below hb (fun k hk => Nat.lt_of_lt_of_le (hS.lt k hk) hch.size)) ⟨⟨Below.cell' hb hc, Below.frozen' hb hc hf⟩, hch.trans (Chg.of_below (M := fun k => k = w.heap.size + 1) hb) (fun _ _ h => h)⟩ ⟨W.heap.size, hch.size, World.alloc_heap_new W _, rfl⟩
    case body =>
      rintro lp pre x a' W hlp ⟨r, hr⟩ ⟨⟨hc, hf⟩, hch⟩ ⟨Bx, hBx, hX, rfl⟩ hlt
      have hx0 : W.cell? ⟨Bx, 0, none⟩ = some (.int .i64 x.1) := by rw [cell_of_at hX]; rfl
      have hx1 : W.cell? ⟨Bx, 1, none⟩ = some (.int .i64 x.2) := by rw [cell_of_at hX]; rfl
      have HC := Lib.hid (And.intro hch (And.intro hX hr))
      clear hch hX hr hbx hkey hri
      gi_wp2_with fail
      gi_region_with (refine ⟨trivial, (fun h => by cases h), ?_⟩; refine CallsIn.inRound lp (callsIn_wide.2 ((len_any _ _ _).mono ?_)); rintro e w3 ⟨rfl, hb3⟩; have k0 := Below.cell' hb3 (p := ⟨(w.heap.size + 1), 0, none⟩) (v := (.int .i64 (sumW pre))) (by go_simp); have kf := Below.frozen' hb3 (p := ⟨(w.heap.size + 1), 0, none⟩) (v := (.int .i64 (sumW pre))) (by go_simp) (by go_simp))
      all_goals
        have hbW : Below W.heap.size W w3 := Below.then_ (by (repeat (with_reducible first | exact Below.refl _ _ | assumption | (refine Below.setCell ?_ (by first | (simp; done) | (simp; omega) | omega) _) | (refine Below.alloc ?_ (by first | (simp; done) | (simp; omega) | omega) _) | refine Below.drew ?_ | refine Below.drewN_ ?_ _ | (refine Below.then_ ?_ (by with_reducible assumption))))) hb3
        obtain ⟨hch, hX, hr⟩ := HC.out
        have hne : ∀ k, seqK w1.heap.size (w1.heap.size + 1) b v k → k < W.heap.size ∧ k ≠ w.heap.size + 1 := by
          intro k hk
          refine ⟨Nat.lt_of_lt_of_le (hS.lt k hk) hch.size, ?_⟩
          rcases hk with rfl | rfl | rfl | e
          · omega
          · omega
          · omega
          · have := hvl k e.symm; omega
        show KeepsFrom _ _ _ ∧ KeepB _ _ _ ∧ _
        rw [wrapEq, show spLen x.1 x.2 = lenOf x from rfl, ← sumW_snoc]
        refine ⟨(keepsFrom_below hbW _).trans (keepsFrom_setCell _ _ _ _), (KeepB.of_below hbW (fun k hk => (hne k hk).1)).trans (KeepB.of_chg (Chg.setCell (fun k => k = w.heap.size + 1) _ rfl _) (fun k hk => ⟨Nat.lt_of_lt_of_le (hne k hk).1 hbW.size, (hne k hk).2⟩)), ⟨World.cell?_setCell_same' _ _ _ (by rw [k0]; rfl), by rw [World.frozen?_setCell]; exact kf⟩, ?_⟩
        exact (hch.trans (Chg.of_below (M := fun k => k = w.heap.size + 1) hbW) (fun _ _ h => h)).trans (Chg.setCell (fun k => k = w.heap.size + 1) _ rfl _) (fun _ _ h => h)
    case done =>
      rintro D ys W hD rfl ⟨⟨hc, hf⟩, hch⟩ hK
      gi_wp2
      refine ⟨by simp, .inl ⟨_, _, rfl, run_takeDeferred hK, ?_⟩⟩
      refine ⟨_, results_tmp rfl _ _ _, rfl, ?_⟩
      have h1 : Below w.heap.size w W := Chg.belowAt (w := w) (w' := W) ((Chg.of_belowAt (M := fun k => w.heap.size ≤ k) (HB1.out) (fun k _ h => h)).trans ((Chg.of_below (M := fun k => w.heap.size ≤ k) hB2).trans hch (fun k _ h => by omega)) (fun k _ h => h)) (Nat.le_refl _) (fun k hk h => by omega)
      exact h1.trans (belowK_b (w := w) (Nat.le_refl _) W D _ _ (by have := HB1.out.size; omega) hK rfl rfl)
    case stop =>
      rintro D c pre W _ _ h _
      exact h.elim
end Go.Proofs.Ytcifbcdjkofomaa
