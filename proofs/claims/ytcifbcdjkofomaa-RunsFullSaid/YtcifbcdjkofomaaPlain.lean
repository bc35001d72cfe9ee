/-
  Plain laws of lists of spans: what is in them, and how many offsets that is. Conditions: none.
-/
import Derived.Test.YtcifbcdjkofomaaAdd
import Derived.Test.YtcifbcdjkofomaaGaps
namespace Go.Proofs.Ytcifbcdjkofomaa
open Go.RowKit
set_option linter.unusedVariables false
set_option linter.unusedSimpArgs false

/-- An offset is in a span; in a list. -/
def inS (x : Sp) (o : Int) : Prop := x.1 ≤ o ∧ o < x.2
def inL (l : List Sp) (o : Int) : Prop := ∃ x ∈ l, inS x o
theorem inL_nil (o : Int) : ¬ inL [] o := fun ⟨_, h, _⟩ => by simp at h
theorem inL_cons (x : Sp) (l : List Sp) (o : Int) : inL (x :: l) o ↔ inS x o ∨ inL l o := by
  constructor
  · rintro ⟨y, hy, h⟩
    rcases List.mem_cons.1 hy with rfl | hy
    · exact .inl h
    · exact .inr ⟨y, hy, h⟩
  · rintro (h | ⟨y, hy, h⟩)
    · exact ⟨x, List.mem_cons_self, h⟩
    · exact ⟨y, List.mem_cons_of_mem _ hy, h⟩
theorem inL_append (l m : List Sp) (o : Int) : inL (l ++ m) o ↔ inL l o ∨ inL m o := by
  constructor
  · rintro ⟨y, hy, h⟩
    rcases List.mem_append.1 hy with hy | hy
    · exact .inl ⟨y, hy, h⟩
    · exact .inr ⟨y, hy, h⟩
  · rintro (⟨y, hy, h⟩ | ⟨y, hy, h⟩)
    · exact ⟨y, List.mem_append_left _ hy, h⟩
    · exact ⟨y, List.mem_append_right _ hy, h⟩
theorem inL_one (x : Sp) (o : Int) : inL [x] o ↔ inS x o := by rw [inL_cons]; simp [inL_nil]
theorem WF.one {x : Sp} (h : Okay x) : WF [x] := ⟨fun y hy => by rw [List.mem_singleton.1 hy]; exact h, List.pairwise_singleton _ _⟩
theorem WF.cons {x : Sp} {l : List Sp} (hx : Okay x) (h : WF l) (hlt : ∀ y ∈ l, x.2 < y.1) : WF (x :: l) :=
  ⟨fun y hy => by rcases List.mem_cons.1 hy with rfl | hy; { exact hx }; { exact h.may y hy }, List.pairwise_cons.2 ⟨hlt, h.apart⟩⟩
theorem WF.left {l m : List Sp} (h : WF (l ++ m)) : WF l := ⟨fun x hx => h.may x (List.mem_append_left _ hx), (List.pairwise_append.1 h.apart).1⟩
theorem WF.right {l m : List Sp} (h : WF (l ++ m)) : WF m := ⟨fun x hx => h.may x (List.mem_append_right _ hx), (List.pairwise_append.1 h.apart).2.1⟩
theorem WF.pre {p l : List Sp} (h : WF l) (hp : p <+: l) : WF p := by obtain ⟨r, rfl⟩ := hp; exact h.left
theorem WF.bounds {l : List Sp} (h : WF l) {o : Int} (ho : inL l o) : 0 ≤ o ∧ o < 4611686018427387904 := by
  obtain ⟨x, hx, h1, h2⟩ := ho
  have := h.may x hx; omega

/-- TWO LISTS IN ORDER WITH THE SAME OFFSETS ARE THE SAME. -/
theorem wf_ext : ∀ {l m : List Sp}, WF l → WF m → (∀ o, inL l o ↔ inL m o) → l = m
  | [], [], _, _, _ => rfl
  | [], y :: m, _, hm, h => absurd ((h y.1).2 ⟨y, List.mem_cons_self, by have := hm.head; unfold inS; omega⟩) (inL_nil _)
  | x :: l, [], hl, _, h => absurd ((h x.1).1 ⟨x, List.mem_cons_self, by have := hl.head; unfold inS; omega⟩) (inL_nil _)
  | x :: l, y :: m, hl, hm, h => by
    have hx := hl.head
    have hy := hm.head
    have low : ∀ {a : Sp} {k : List Sp} {o : Int}, WF (a :: k) → inL (a :: k) o → a.1 ≤ o := by
      intro a k o hk ho
      rcases (inL_cons _ _ _).1 ho with h | ⟨z, hz, h⟩
      · exact h.1
      · have := hk.lt z hz; have := hk.head; have := h.1; omega
    have up : ∀ {a : Sp} {k : List Sp}, WF (a :: k) → ¬ inL (a :: k) a.2 := by
      intro a k hk ho
      rcases (inL_cons _ _ _).1 ho with h | ⟨z, hz, h⟩
      · have := h.2; omega
      · have := hk.lt z hz; have := h.1; omega
    have e1 : x.1 = y.1 := by
      have h1 := low hm ((h x.1).1 ⟨x, List.mem_cons_self, by unfold inS; omega⟩)
      have h2 := low hl ((h y.1).2 ⟨y, List.mem_cons_self, by unfold inS; omega⟩)
      omega
    have e2 : x.2 = y.2 := by
      rcases Int.lt_trichotomy x.2 y.2 with hlt | he | hlt
      · exact absurd ((h x.2).2 ⟨y, List.mem_cons_self, by unfold inS; omega⟩) (up hl)
      · exact he
      · exact absurd ((h y.2).1 ⟨x, List.mem_cons_self, by unfold inS; omega⟩) (up hm)
    have exy : x = y := Prod.ext e1 e2
    subst exy
    refine congrArg (x :: ·) (wf_ext hl.tail hm.tail fun o => ?_)
    have far : ∀ {k : List Sp}, WF (x :: k) → inL k o → ¬ inS x o := by
      rintro k hk ⟨z, hz, h⟩ hx
      have := hk.lt z hz; have := h.1; have := hx.2; omega
    constructor
    · intro ho
      rcases (inL_cons _ _ _).1 ((h o).1 ((inL_cons _ _ _).2 (.inr ho))) with h1 | h1
      · exact absurd h1 (far hl ho)
      · exact h1
    · intro ho
      rcases (inL_cons _ _ _).1 ((h o).2 ((inL_cons _ _ _).2 (.inr ho))) with h1 | h1
      · exact absurd h1 (far hm ho)
      · exact h1

/-! ### how many offsets there are -/
def part (x : Sp) (a : Int) : Int := if a ≤ x.1 then 0 else if x.2 ≤ a then x.2 - x.1 else a - x.1
def cum (l : List Sp) (a : Int) : Int := (l.map (part · a)).sum
theorem cum_nil (a : Int) : cum [] a = 0 := rfl
theorem cum_cons (x : Sp) (l : List Sp) (a : Int) : cum (x :: l) a = part x a + cum l a := by simp [cum]
theorem cum_zero {l : List Sp} (h : WF l) : cum l 0 = 0 := by
  induction l with
  | nil => rfl
  | cons x l ih => rw [cum_cons, ih h.tail]; have := h.head; unfold part; rw [if_pos (by omega)]; rfl
theorem cum_all {l : List Sp} (h : WF l) : cum l 4611686018427387904 = sumLen l := by
  induction l with
  | nil => rfl
  | cons x l ih =>
    rw [cum_cons, sumLen_cons, ih h.tail, lenOf_may h.head]
    have := h.head
    unfold part
    rw [if_neg (by omega), if_pos (by omega)]
theorem cum_no {l : List Sp} (h : WF l) (a : Int) (hn : ¬ inL l a) : cum l (a + 1) = cum l a := by
  induction l with
  | nil => rfl
  | cons x l ih =>
    rw [cum_cons, cum_cons, ih h.tail (fun h' => hn ((inL_cons _ _ _).2 (.inr h')))]
    have h1 : ¬ inS x a := fun h' => hn ((inL_cons _ _ _).2 (.inl h'))
    have := h.head
    unfold inS at h1
    unfold part
    split <;> split <;> first | omega | (split <;> omega)
theorem cum_in {l : List Sp} (h : WF l) (a : Int) (hi : inL l a) : cum l (a + 1) = cum l a + 1 := by
  induction l with
  | nil => exact absurd hi (inL_nil _)
  | cons x l ih =>
    rw [cum_cons, cum_cons]
    rcases (inL_cons _ _ _).1 hi with h1 | h1
    · have h2 : ¬ inL l a := by
        rintro ⟨z, hz, hza⟩
        have := h.lt z hz; have := hza.1; have := h1.2; omega
      rw [cum_no h.tail a h2]
      unfold inS at h1
      unfold part
      have := h.head
      split <;> split <;> first | omega | (split <;> omega)
    · rw [ih h.tail h1]
      obtain ⟨z, hz, hza⟩ := h1
      have := h.lt z hz
      have := h.head
      unfold inS at hza
      unfold part
      split <;> split <;> first | omega | (split <;> omega)
/-- THE OFFSETS OF TWO LISTS APART, TOGETHER. -/
theorem sum_parts {l m p : List Sp} (hl : WF l) (hm : WF m) (hp : WF p) (h : ∀ o, inL p o ↔ inL l o ∨ inL m o) (ha : ∀ o, inL l o → ¬ inL m o) : sumLen p = sumLen l + sumLen m := by
  have key : ∀ a : Nat, cum p a = cum l a + cum m a := by
    intro a
    induction a with
    | zero => rw [show ((0 : Nat) : Int) = 0 from rfl, cum_zero hl, cum_zero hm, cum_zero hp]; rfl
    | succ a ih =>
      rw [show ((a + 1 : Nat) : Int) = (a : Int) + 1 by omega]
      by_cases h1 : inL l a
      · rw [cum_in hl _ h1, cum_no hm _ (ha _ h1), cum_in hp _ ((h _).2 (.inl h1)), ih]; omega
      · by_cases h2 : inL m a
        · rw [cum_no hl _ h1, cum_in hm _ h2, cum_in hp _ ((h _).2 (.inr h2)), ih]; omega
        · rw [cum_no hl _ h1, cum_no hm _ h2, cum_no hp _ (fun h' => by rcases (h _).1 h' with h' | h'; { exact h1 h' }; { exact h2 h' }), ih]
  rw [← cum_all hl, ← cum_all hm, ← cum_all hp]
  exact key 4611686018427387904
theorem sumLen_one (x : Sp) : sumLen [x] = lenOf x := by rw [sumLen_cons, sumLen_nil]; omega
theorem sumLen_zero {l : List Sp} (h : ∀ o, ¬ inL l o) (hl : WF l) : l = [] :=
  wf_ext hl WF.nil fun o => ⟨fun h' => absurd h' (h o), fun h' => absurd h' (inL_nil o)⟩

/-! ### what of runs lies in a span -/
theorem meetOf_okay {s x : Sp} (hs : Okay s) (hx : Okay x) (h1 : x.1 < s.2) (h2 : s.1 < x.2) : meetOf s x = (max x.1 s.1, min x.2 s.2) := by
  unfold meetOf spMeet
  rw [pln_okay hs, pln_okay hx]
  unfold Okay at hs hx
  exact pln_pos (by simp [mayB]; omega) (by omega)
theorem meets_in {s : Sp} (hs : Okay s) : ∀ {l : List Sp}, WF l → (∀ x ∈ l, s.1 < x.2) → WF (meetsL s l) ∧ ∀ o, inL (meetsL s l) o ↔ inL l o ∧ inS s o
  | [], _, _ => ⟨WF.nil, fun o => by simp [meetsL, inL_nil]⟩
  | x :: l, h, ha => by
    have hx : Okay x := h.head
    have hx2 := ha x List.mem_cons_self
    obtain ⟨ih1, ih2⟩ := meets_in hs h.tail (fun y hy => ha y (List.mem_cons_of_mem _ hy))
    rw [meetsL]
    by_cases hc : x.1 < s.2
    · rw [if_pos hc, meetOf_okay hs hx hc hx2]
      unfold Okay at hs hx
      constructor
      · refine WF.cons (by unfold Okay; simp only; omega) ih1 fun y hy => ?_
        have hyw := ih1.may y hy
        obtain ⟨⟨z, hz, hz1⟩, hys⟩ := (ih2 y.1).1 ⟨y, hy, by unfold inS; omega⟩
        have := h.lt z hz
        have := hz1.1
        simp only; omega
      · intro o
        rw [inL_cons, inL_cons, ih2]
        unfold inS; simp only
        constructor
        · rintro (h | h)
          · exact ⟨.inl (by omega), by omega⟩
          · exact ⟨.inr h.1, h.2⟩
        · rintro ⟨h | h, h'⟩
          · exact .inl (by omega)
          · exact .inr ⟨h, h'⟩
    · rw [if_neg hc]
      refine ⟨WF.nil, fun o => ⟨fun h => absurd h (inL_nil _), ?_⟩⟩
      rintro ⟨ho, h2⟩
      exfalso
      rcases (inL_cons _ _ _).1 ho with h3 | ⟨z, hz, h3⟩
      · have := h3.1; have := h2.2; omega
      · have := h.lt z hz; have := h3.1; have := h2.2; have := h.head; omega
/-- What of runs lies in a span, as the code finds it. -/
def cutL (l : List Sp) (s : Sp) : List Sp := meetsL s (l.drop (firstIdx (fun y => decide (s.1 < y.2)) l))
theorem cut_rises {l : List Sp} (hw : WF l) (s : Sp) : Rises l (fun y => decide (s.1 < y.2)) := hw.rises_to (fun a => decide (s.1 < a)) (fun a b h1 h2 => by simp at *; omega)
theorem cut_in {l : List Sp} (hw : WF l) {s : Sp} (hs : Okay s) : WF (cutL l s) ∧ ∀ o, inL (cutL l s) o ↔ inL l o ∧ inS s o := by
  obtain ⟨hk, hlo, hhi⟩ := firstOf_idx _ l (cut_rises hw s)
  have hd : ∀ x ∈ l.drop (firstIdx (fun y => decide (s.1 < y.2)) l), s.1 < x.2 := by
    intro x hx
    obtain ⟨i, hi, rfl⟩ := List.getElem_of_mem hx
    rw [List.getElem_drop]
    rw [List.length_drop] at hi
    have := hhi (firstIdx (fun y => decide (s.1 < y.2)) l + i) (by omega) (by omega)
    simp only [decide_eq_true_eq] at this
    rw [atS_get l _ (by omega)] at this
    exact this
  obtain ⟨h1, h2⟩ := meets_in hs (hw.drop (firstIdx (fun y => decide (s.1 < y.2)) l)) hd
  refine ⟨h1, fun o => (h2 o).trans ⟨fun h => ⟨?_, h.2⟩, fun h => ⟨?_, h.2⟩⟩⟩
  · obtain ⟨⟨x, hx, hxo⟩, _⟩ := h
    exact ⟨x, List.mem_of_mem_drop hx, hxo⟩
  · obtain ⟨⟨x, hx, hxo⟩, hso⟩ := h
    refine ⟨x, ?_, hxo⟩
    rw [← List.take_append_drop (firstIdx (fun y => decide (s.1 < y.2)) l) l] at hx
    rcases List.mem_append.1 hx with hx | hx
    · exfalso
      obtain ⟨i, hi, rfl⟩ := List.getElem_of_mem hx
      rw [List.length_take] at hi
      have := hlo i (by omega)
      simp only [decide_eq_false_iff_not] at this
      rw [atS_get l _ (by omega)] at this
      rw [List.getElem_take] at hxo
      have := hxo.2; have := hso.1; omega
    · exact hx
theorem within_cut (l : List Sp) (s : Sp) (hs : Okay s) : within l s = sumLen (cutL l s) := by
  unfold within; rw [if_neg (by rw [lenOf_may hs]; unfold Okay at hs; omega)]; rfl

/-! ### gaps -/
theorem gapsTo_in : ∀ {l : List Sp} (a : Int), WF l → 0 ≤ a → a ≤ 4611686018427387904 → (∀ x ∈ l, a ≤ x.1) →
    WF (gapsTo a l).1 ∧ a ≤ (gapsTo a l).2 ∧ (gapsTo a l).2 ≤ 4611686018427387904 ∧ (∀ x ∈ l, x.2 ≤ (gapsTo a l).2) ∧ (∀ g ∈ (gapsTo a l).1, g.2 < (gapsTo a l).2) ∧ ∀ o, inL (gapsTo a l).1 o ↔ (a ≤ o ∧ o < (gapsTo a l).2 ∧ ¬ inL l o)
  | [], a, _, h0, h1, _ => ⟨WF.nil, by simp [gapsTo], by simpa [gapsTo] using h1, by simp, by simp [gapsTo], fun o => by simp [gapsTo, inL_nil]⟩
  | x :: l, a, h, h0, h1, ha => by
    have hx := h.head
    have hax := ha x List.mem_cons_self
    have hlt := h.lt
    obtain ⟨i1, i2, i3, i4, i5, i6⟩ := gapsTo_in (l := l) x.2 h.tail (by omega) hx.2.2 (fun y hy => by have := h.lt y hy; omega)
    rw [gapsTo]
    simp only
    have low : ∀ g ∈ (gapsTo x.2 l).1, x.2 ≤ g.1 := by
      intro g hg
      have := i1.may g hg
      exact ((i6 g.1).1 ⟨g, hg, by unfold inS; omega⟩).1
    have key : ∀ o, (a ≤ o ∧ o < (gapsTo x.2 l).2 ∧ ¬ inL (x :: l) o) ↔ (a ≤ o ∧ o < x.1) ∨ inL (gapsTo x.2 l).1 o := by
      intro o
      rw [i6, inL_cons]
      constructor
      · rintro ⟨h1, h2, h3⟩
        by_cases hc : o < x.1
        · exact .inl ⟨h1, hc⟩
        · refine .inr ⟨?_, h2, fun h => h3 (.inr h)⟩
          refine Int.not_lt.1 fun hlt => h3 (.inl ⟨by omega, hlt⟩)
      · rintro (⟨h1, h2⟩ | ⟨h1, h2, h3⟩)
        · refine ⟨h1, by omega, ?_⟩
          rintro (h | ⟨z, hz, h⟩)
          · have := h.1; omega
          · have := h.1; have := hlt z hz; omega
        · refine ⟨by omega, h2, ?_⟩
          rintro (h | h)
          · have := h.2; omega
          · exact h3 h
    by_cases hc : a < x.1
    · rw [if_pos hc]
      refine ⟨WF.cons (by unfold Okay; simp only; omega) i1 (fun y hy => by have := low y hy; simp only; omega), by omega, i3, ?_, ?_, fun o => ?_⟩
      · intro y hy
        rcases List.mem_cons.1 hy with rfl | hy
        · exact i2
        · exact i4 y hy
      · intro g hg
        rcases List.mem_cons.1 hg with rfl | hg
        · simp only; omega
        · exact i5 g hg
      · rw [key, inL_cons]; rfl
    · rw [if_neg hc]
      refine ⟨i1, by omega, i3, ?_, i5, fun o => ?_⟩
      · intro y hy
        rcases List.mem_cons.1 hy with rfl | hy
        · exact i2
        · exact i4 y hy
      · rw [key]
        constructor
        · exact .inr
        · rintro (h | h)
          · omega
          · exact h
theorem gaps_in_ {l : List Sp} (hw : WF l) {s : Sp} (hs : Okay s) : WF (gapsOf s (cutL l s)) ∧ ∀ o, inL (gapsOf s (cutL l s)) o ↔ inS s o ∧ ¬ inL l o := by
  obtain ⟨c1, c2⟩ := cut_in hw hs
  unfold Okay at hs
  have hlo : ∀ x ∈ cutL l s, s.1 ≤ x.1 ∧ x.2 ≤ s.2 := by
    intro x hx
    have hx' := c1.may x hx
    have h1 := ((c2 x.1).1 ⟨x, hx, by unfold inS; omega⟩).2
    have h2 := ((c2 (x.2 - 1)).1 ⟨x, hx, by unfold inS; omega⟩).2
    exact ⟨h1.1, by have := h2.2; omega⟩
  obtain ⟨g1, g2, g3, g4, g5, g6⟩ := gapsTo_in s.1 c1 hs.1 (by omega) (fun x hx => (hlo x hx).1)
  have hend : (gapsTo s.1 (cutL l s)).2 ≤ s.2 := by
    have : ∀ (m : List Sp) (a : Int), a ≤ s.2 → (∀ x ∈ m, x.2 ≤ s.2) → (gapsTo a m).2 ≤ s.2 := by
      intro m
      induction m with
      | nil => intro a h _; exact h
      | cons y m ih => intro a h hm; rw [gapsTo]; exact ih _ (hm y List.mem_cons_self) (fun x hx => hm x (List.mem_cons_of_mem _ hx))
    exact this _ _ (by omega) (fun x hx => (hlo x hx).2)
  have hin : ∀ o, inS s o → (inL (cutL l s) o ↔ inL l o) := fun o ho => (c2 o).trans ⟨fun h => h.1, fun h => ⟨h, ho⟩⟩
  have hne : ¬ spLen s.1 s.2 = 0 := by rw [show spLen s.1 s.2 = lenOf s from rfl, lenOf_may hs]; omega
  unfold gapsOf
  rw [if_neg hne]
  by_cases hc : (gapsTo s.1 (cutL l s)).2 < s.2
  · rw [if_pos hc]
    refine ⟨⟨?_, ?_⟩, fun o => ?_⟩
    · intro x hx
      rcases List.mem_append.1 hx with hx | hx
      · exact g1.may x hx
      · rw [List.mem_singleton.1 hx]; simp only; omega
    · refine List.pairwise_append.2 ⟨g1.apart, List.pairwise_singleton _ _, fun x hx y hy => ?_⟩
      rw [List.mem_singleton.1 hy]
      exact g5 x hx
    · rw [inL_append, inL_one, g6]
      unfold inS; simp only
      constructor
      · rintro (⟨h1, h2, h3⟩ | ⟨h1, h2⟩)
        · have : s.1 ≤ o ∧ o < s.2 := ⟨h1, by omega⟩
          exact ⟨this, fun h => h3 ((hin o this).2 h)⟩
        · have : s.1 ≤ o ∧ o < s.2 := ⟨by omega, h2⟩
          refine ⟨this, fun h => ?_⟩
          obtain ⟨x, hx, hxo⟩ := (hin o this).2 h
          have := g4 x hx; have := hxo.2; omega
      · rintro ⟨h1, h2⟩
        by_cases ho : o < (gapsTo s.1 (cutL l s)).2
        · exact .inl ⟨h1.1, ho, fun h => h2 ((hin o h1).1 h)⟩
        · exact .inr ⟨by omega, h1.2⟩
  · rw [if_neg hc, List.append_nil]
    refine ⟨g1, fun o => ?_⟩
    rw [g6]
    constructor
    · rintro ⟨h1, h2, h3⟩
      have : inS s o := ⟨h1, by omega⟩
      exact ⟨this, fun h => h3 ((hin o this).2 h)⟩
    · rintro ⟨h1, h2⟩
      exact ⟨h1.1, by have := h1.2; omega, fun h => h2 ((hin o h1).1 h)⟩
theorem gaps_len (s : Sp) (m : List Sp) : (gapsOf s m).length ≤ m.length + 1 := by
  have : ∀ (m : List Sp) (a : Int), (gapsTo a m).1.length ≤ m.length := by
    intro m
    induction m with
    | nil => intro a; simp [gapsTo]
    | cons x m ih => intro a; rw [gapsTo]; have := ih x.2; simp only; split <;> simp <;> omega
  unfold gapsOf
  split
  · simp
  · have := this m s.1
    rw [List.length_append]
    split <;> simp <;> omega
theorem cut_len (l : List Sp) (s : Sp) : (cutL l s).length ≤ l.length := by
  have : ∀ m : List Sp, (meetsL s m).length ≤ m.length := by
    intro m
    induction m with
    | nil => simp [meetsL]
    | cons x m ih => rw [meetsL]; split <;> simp; omega
  have := this (l.drop (firstIdx (fun y => decide (s.1 < y.2)) l))
  unfold cutL
  rw [List.length_drop] at this
  omega
theorem gaps_bad {s : Sp} (hs : lenOf s = 0) (m : List Sp) : gapsOf s m = [] := by unfold gapsOf; exact if_pos hs

/-! ### an addition -/
theorem hull_facts : ∀ (l : List Sp) (a : Sp), (∀ x ∈ a :: l, (l.foldl join2 a).1 ≤ x.1 ∧ x.2 ≤ (l.foldl join2 a).2) ∧ (∃ x ∈ a :: l, x.1 = (l.foldl join2 a).1) ∧ (∃ x ∈ a :: l, x.2 = (l.foldl join2 a).2)
  | [], a => ⟨fun x hx => by rw [List.mem_singleton.1 hx]; simp, ⟨a, List.mem_cons_self, rfl⟩, ⟨a, List.mem_cons_self, rfl⟩⟩
  | y :: l, a => by
    obtain ⟨h1, ⟨u, hu, hu1⟩, ⟨v, hv, hv1⟩⟩ := hull_facts l (join2 a y)
    have hj := h1 (join2 a y) List.mem_cons_self
    rw [List.foldl_cons]
    refine ⟨?_, ?_, ?_⟩
    · intro x hx
      rcases List.mem_cons.1 hx with rfl | hx
      · unfold join2 at hj; simp only at hj; have := hj.1; have := hj.2; unfold join2; omega
      · rcases List.mem_cons.1 hx with rfl | hx
        · unfold join2 at hj; simp only at hj; have := hj.1; have := hj.2; unfold join2; omega
        · exact h1 x (List.mem_cons_of_mem _ hx)
    · rcases List.mem_cons.1 hu with rfl | hu
      · by_cases hc : a.1 ≤ y.1
        · exact ⟨a, List.mem_cons_self, by rw [← hu1]; unfold join2; simp only; omega⟩
        · exact ⟨y, List.mem_cons_of_mem _ List.mem_cons_self, by rw [← hu1]; unfold join2; simp only; omega⟩
      · exact ⟨u, List.mem_cons_of_mem _ (List.mem_cons_of_mem _ hu), hu1⟩
    · rcases List.mem_cons.1 hv with rfl | hv
      · by_cases hc : y.2 ≤ a.2
        · exact ⟨a, List.mem_cons_self, by rw [← hv1]; unfold join2; simp only; omega⟩
        · exact ⟨y, List.mem_cons_of_mem _ List.mem_cons_self, by rw [← hv1]; unfold join2; simp only; omega⟩
      · exact ⟨v, List.mem_cons_of_mem _ (List.mem_cons_of_mem _ hv), hv1⟩
theorem hull1_facts {l : List Sp} (hne : l ≠ []) : (∀ x ∈ l, (hull1 l).1 ≤ x.1 ∧ x.2 ≤ (hull1 l).2) ∧ (∃ x ∈ l, x.1 = (hull1 l).1) ∧ (∃ x ∈ l, x.2 = (hull1 l).2) := by
  cases l with
  | nil => exact absurd rfl hne
  | cons a l => exact hull_facts l a
theorem add_parts {l : List Sp} (hw : WF l) {s : Sp} (hs : Okay s) : ∃ a m b, l = a ++ m ++ b ∧ addL l s = a ++ [hull1 (m ++ [s])] ++ b ∧ (∀ x ∈ a, x.2 < s.1) ∧ (∀ x ∈ m, s.1 ≤ x.2 ∧ x.1 ≤ s.2) ∧ (∀ x ∈ b, s.2 < x.1) := by
  have hp1 : Rises l (fun y => decide (s.1 ≤ y.2)) := hw.rises_to (fun a => decide (s.1 ≤ a)) (fun a b h1 h2 => by simp at *; omega)
  have hp2 : Rises l (fun y => decide (s.2 < y.1)) := hw.rises_from (fun a => decide (s.2 < a)) (fun a b h1 h2 => by simp at *; omega)
  obtain ⟨hij, hj⟩ := lohi hw s hs hp1 hp2
  obtain ⟨_, l1, l2⟩ := firstOf_idx _ l hp1
  obtain ⟨_, h1, h2⟩ := firstOf_idx _ l hp2
  refine ⟨l.take (loA l s), (l.drop (loA l s)).take (hiA l s - loA l s), l.drop (hiA l s), ?_, rfl, ?_, ?_, ?_⟩
  · rw [List.append_assoc]
    have e : (l.drop (loA l s)).take (hiA l s - loA l s) ++ l.drop (hiA l s) = l.drop (loA l s) := by
      have := List.take_append_drop (hiA l s - loA l s) (l.drop (loA l s))
      rw [List.drop_drop, show loA l s + (hiA l s - loA l s) = hiA l s by omega] at this
      exact this
    rw [e, List.take_append_drop]
  · intro x hx
    obtain ⟨i, hi, rfl⟩ := List.getElem_of_mem hx
    rw [List.length_take] at hi
    have := l1 i (show i < loA l s by omega)
    simp only [decide_eq_false_iff_not] at this
    rw [atS_get l _ (by omega)] at this
    rw [List.getElem_take]; omega
  · intro x hx
    obtain ⟨i, hi, rfl⟩ := List.getElem_of_mem hx
    rw [List.length_take, List.length_drop] at hi
    rw [List.getElem_take, List.getElem_drop]
    have e1 := l2 (loA l s + i) (Nat.le_add_right _ _) (by omega)
    have e2 := h1 (loA l s + i) (show loA l s + i < hiA l s by omega)
    simp only [decide_eq_true_eq, decide_eq_false_iff_not] at e1 e2
    rw [atS_get l _ (by omega)] at e1 e2
    omega
  · intro x hx
    obtain ⟨i, hi, rfl⟩ := List.getElem_of_mem hx
    rw [List.length_drop] at hi
    rw [List.getElem_drop]
    have e1 := h2 (hiA l s + i) (Nat.le_add_right _ _) (by omega)
    simp only [decide_eq_true_eq] at e1
    rw [atS_get l _ (by omega)] at e1
    exact e1
theorem addL_wf {l : List Sp} (hw : WF l) {s : Sp} (hs : Okay s) : WF (addL l s) ∧ (∀ o, inL (addL l s) o ↔ inL l o ∨ inS s o) ∧ (addL l s).length ≤ l.length + 1 := by
  obtain ⟨a, m, b, rfl, e, ha, hm, hb⟩ := add_parts hw hs
  rw [e]
  obtain ⟨f1, ⟨u, hu, hu1⟩, ⟨v, hv, hv1⟩⟩ := hull1_facts (l := m ++ [s]) (by simp)
  have hmw : WF m := hw.left.right
  have hok : Okay (hull1 (m ++ [s])) := hull1_okay (fun x hx => by
    rcases List.mem_append.1 hx with hx | hx
    · exact hmw.may x hx
    · rw [List.mem_singleton.1 hx]; exact hs) (by simp)
  have hsH := f1 s (by simp)
  generalize hull1 (m ++ [s]) = H at *
  have pab := List.pairwise_append.1 hw.apart
  have pam := List.pairwise_append.1 pab.1
  have haH : ∀ x ∈ a, x.2 < H.1 := by
    intro x hx
    rw [← hu1]
    rcases List.mem_append.1 hu with hu | hu
    · exact pam.2.2 x hx u hu
    · rw [List.mem_singleton.1 hu]; exact ha x hx
  have hHb : ∀ x ∈ b, H.2 < x.1 := by
    intro x hx
    rw [← hv1]
    rcases List.mem_append.1 hv with hv | hv
    · exact pab.2.2 v (List.mem_append_right _ hv) x hx
    · rw [List.mem_singleton.1 hv]; exact hb x hx
  refine ⟨⟨?_, ?_⟩, ?_, by simp; omega⟩
  · intro x hx
    rcases List.mem_append.1 hx with hx | hx
    · rcases List.mem_append.1 hx with hx | hx
      · exact hw.may x (List.mem_append_left _ (List.mem_append_left _ hx))
      · rw [List.mem_singleton.1 hx]; exact hok
    · exact hw.may x (List.mem_append_right _ hx)
  · refine List.pairwise_append.2 ⟨List.pairwise_append.2 ⟨pam.1, List.pairwise_singleton _ _, fun x hx y hy => ?_⟩, pab.2.1, fun x hx y hy => ?_⟩
    · rw [List.mem_singleton.1 hy]; exact haH x hx
    · rcases List.mem_append.1 hx with hx | hx
      · exact pab.2.2 x (List.mem_append_left _ hx) y hy
      · rw [List.mem_singleton.1 hx]; exact hHb y hy
  · intro o
    rw [inL_append, inL_append, inL_one, inL_append, inL_append]
    have hH : inS H o ↔ inL m o ∨ inS s o := by
      constructor
      · rintro ⟨h1, h2⟩
        by_cases c1 : o < s.1
        · rcases List.mem_append.1 hu with hu | hu
          · have := hm u hu
            exact .inl ⟨u, hu, by omega, by omega⟩
          · rw [List.mem_singleton.1 hu] at hu1; omega
        · by_cases c2 : s.2 ≤ o
          · rcases List.mem_append.1 hv with hv | hv
            · have := hm v hv
              exact .inl ⟨v, hv, by omega, by omega⟩
            · rw [List.mem_singleton.1 hv] at hv1; omega
          · exact .inr ⟨by omega, by omega⟩
      · rintro (⟨x, hx, h1, h2⟩ | ⟨h1, h2⟩)
        · have := f1 x (List.mem_append_left _ hx)
          exact ⟨by omega, by omega⟩
        · exact ⟨by omega, by omega⟩
    rw [hH]
    constructor
    · rintro ((h | h | h) | h)
      · exact .inl (.inl (.inl h))
      · exact .inl (.inl (.inr h))
      · exact .inr h
      · exact .inl (.inr h)
    · rintro (((h | h) | h) | h)
      · exact .inl (.inl h)
      · exact .inl (.inr (.inl h))
      · exact .inr h
      · exact .inl (.inr (.inr h))
/-- What an addition finds new. -/
theorem add_sum {l : List Sp} (hw : WF l) {s : Sp} (hs : Okay s) : sumLen (gapsOf s (cutL l s)) + within l s = lenOf s ∧ sumLen (addL l s) = sumLen l + (lenOf s - within l s) := by
  obtain ⟨c1, c2⟩ := cut_in hw hs
  obtain ⟨g1, g2⟩ := gaps_in_ hw hs
  obtain ⟨a1, a2, _⟩ := addL_wf hw hs
  have e1 : sumLen [s] = sumLen (gapsOf s (cutL l s)) + sumLen (cutL l s) := sum_parts g1 c1 (WF.one hs) (fun o => by
    rw [inL_one, g2, c2]
    constructor
    · intro h
      by_cases hc : inL l o
      · exact .inr ⟨hc, h⟩
      · exact .inl ⟨h, hc⟩
    · rintro (h | h)
      · exact h.1
      · exact h.2) (fun o h1 h2 => ((g2 o).1 h1).2 ((c2 o).1 h2).1)
  have e2 : sumLen (addL l s) = sumLen l + sumLen (gapsOf s (cutL l s)) := sum_parts hw g1 a1 (fun o => by
    rw [a2, g2]
    constructor
    · rintro (h | h)
      · exact .inl h
      · by_cases hc : inL l o
        · exact .inl hc
        · exact .inr ⟨h, hc⟩
    · rintro (h | h)
      · exact .inl h
      · exact .inr h.1) (fun o h1 h2 => ((g2 o).1 h2).2 h1)
  rw [sumLen_one] at e1
  rw [within_cut l s hs]
  omega
end Go.Proofs.Ytcifbcdjkofomaa
