/-
  A law of my own for a range over an iterator: what a round keeps is all but the caller's own blocks. Conditions: the caller's invariant speaks of blocks ahead of the loop, and of blocks that it owns.
-/
import Derived.Test.YtcifbcdjkofomaaWithin
namespace Go.Proofs.Ytcifbcdjkofomaa
open Go.RowKit Go.Shelf
set_option linter.unusedVariables false
set_option linter.unusedSimpArgs false

abbrev Inv := List Sp → (Nat → Prop) → World → Prop
/-- J speaks of blocks ahead of B and of those of O alone. -/
def Calm (B : Nat) (J : Inv) : Prop := ∀ pre O A A' M, J pre O A → Chg M A A' → (∀ k, k < A.heap.size → M k → B ≤ k ∧ ¬ O k) → J pre O A'
theorem Calm.below {B : Nat} {J : Inv} (h : Calm B J) {pre : List Sp} {O : Nat → Prop} {A A' : World} (hj : J pre O A) (hb : Below A.heap.size A A') : J pre O A' :=
  h pre O A A' (fun _ => False) hj (Chg.of_below hb) (fun _ _ h => h.elim)
structure KeepX (K : Nat → Prop) (B : Nat) (O : Nat → Prop) (W W' : World) : Prop where
  size : W.heap.size ≤ W'.heap.size
  same : ∀ b o, (K b ∨ (B ≤ b ∧ ¬ O b)) → W.heap[b]? = some o → W'.heap[b]? = some o
/-- How a round ends. -/
def RoundEnds (K : Nat → Prop) (B : Nat) (J Jx : Inv) (pre : List Sp) (O : Nat → Prop) (W : World) (e : Ending) (W' : World) : Prop :=
  ∃ O', (∀ k, O' k → O k ∨ W.heap.size ≤ k) ∧ KeepX K B O W W' ∧ ((e = .returned (.bool true) ∧ J pre O' W') ∨ (e = .returned (.bool false) ∧ Jx pre O' W'))
/-- An iterator that gives the list L. -/
def Gives (n g : Nat) (lb : Array Value) (K : Nat → Prop) (L : List Sp) (w : World) : Prop :=
  ∀ (lp : Nat) (J Jx : Inv) (O0 : Nat → Prop) (W : World), Below w.heap.size w W → Calm W.heap.size J → Calm W.heap.size Jx → (∀ pre O A, J pre O A → ∀ k, O k → k < A.heap.size) →
    (∀ m pre O x W1, J pre O W1 → W.heap.size ≤ W1.heap.size → (pre ++ [x]) <+: L → YieldAt Fence.wide m Try.prog lp (spEnc x) W1 (RoundEnds K W.heap.size J Jx (pre ++ [x]) O W1)) →
    J [] O0 W → CallsIn Fence.wide n Try.prog g (#[.func (.yield lp) #[] #[]] ++ lb) W fun e W' => (∃ v, e = .returned v) ∧ ((∃ O, J L O W') ∨ (∃ pre O, pre <+: L ∧ Jx pre O W'))

/-- How the body of a round is left. -/
def BodyEnds (K : Nat → Prop) (B : Nat) (I : Inv) (Ix : Code → Inv) (pre : List Sp) (O : Nat → Prop) (W : World) : Exit → Act → World → Prop
  | .normal, _, W' => ∃ O', (∀ k, O' k → O k ∨ W.heap.size ≤ k) ∧ KeepX K B O W W' ∧ I pre O' W'
  | .ret, _, W' => ∃ O', (∀ k, O' k → O k ∨ W.heap.size ≤ k) ∧ KeepX K B O W W' ∧ Ix .ret pre O' W'
  | .exit id, _, W' => ∃ O', (∀ k, O' k → O k ∨ W.heap.size ≤ k) ∧ KeepX K B O W W' ∧ Ix (.exit id) pre O' W'
  | _, _, _ => False

theorem lt_of_at' {w : World} {k : Nat} {o : Obj} (h : w.heap[k]? = some o) : k < w.heap.size := (Array.getElem?_eq_some_iff.1 h).1
theorem chg_putObj (w : World) (l : Nat) (o : Obj) : Chg (fun k => k = l) w (w.putObj l o) := ⟨rfl, rfl, rfl, by simp, fun k _ hn => World.putObj_heap_other hn⟩

theorem range_gives {g : Operand} {ps : Array Tmp} {assign body : Code} {Q : Exit → Act → World → Prop} {a : Act} {w : World} {n : Nat}
    (hn : 1 ≤ n) {gf : Nat} {lb : Array Value} (hg : a.eval g = .func (.func gf) #[] lb) (eg : ∀ args w, (callFunc gf args).run Try.prog w = .ok (.enter gf args) w)
    {K : Nat → Prop} {L : List Sp} {w0 : World} (hseq : Gives (n - 1) gf lb K L w0) (hb0 : Below w0.heap.size w0 w) (hps : ps.size = 1) (hK : ∀ k, K k → k < w.heap.size)
    (I : Inv) (Ix : Code → Inv) (hI : Calm w.heap.size I) (hIx : ∀ c, Calm w.heap.size (Ix c)) (hO : ∀ pre O A, I pre O A → ∀ k, O k → k < A.heap.size) (O0 : Nat → Prop) (hO0 : ∀ k, O0 k → k < w.heap.size) (h0 : I [] O0 w)
    (fr : Sp → Nat → Act)
    (hassign : ∀ (l : Nat) (x : Sp) (W : World) (P : Act → World → Prop), P (fr x W.heap.size) (W.alloc (.cells #[.int .i64 x.1, .int .i64 x.2] 24)) →
      assign.wpIn (Fence.wide.inRound l) (n - 1 - 1) Try.prog (Exit.then P (fun _ _ _ => False)) { tmps := (ps.zip (spEnc x)).foldl (fun t (p, v) => t.setIfInBounds p v) a.tmps, defers := [] } W)
    (hbody : ∀ (l : Nat) (pre : List Sp) (O : Nat → Prop) (x : Sp) (Bx : Nat) (W : World), w.heap.size ≤ l → (∃ r, W.heap[l]? = some (.loop r)) → I pre O W → w.heap.size ≤ Bx → ¬ O Bx → W.heap[Bx]? = some (.cells #[.int .i64 x.1, .int .i64 x.2] 24 (0, 0)) →
      (∀ k, O k → k < w.heap.size ∨ w.heap.size + 2 ≤ k) → (pre ++ [x]) <+: L →
      body.wpIn (Fence.wide.inRound l) (n - 1 - 1) Try.prog (BodyEnds K w.heap.size I Ix (pre ++ [x]) O W) (fr x Bx) W)
    (hdone : ∀ (D : Nat) (O : Nat → Prop) (W : World), w.heap.size ≤ D → I L O W → ¬ O D → W.heap[D]? = some (.deferred (some [])) → Q .normal { a with defers := { target := .collected D, args := #[] } :: a.defers } W)
    (hstop : ∀ (D : Nat) (c : Code) (pre : List Sp) (O : Nat → Prop) (W : World), w.heap.size ≤ D → pre <+: L → Ix c pre O W → ¬ O D → W.heap[D]? = some (.deferred (some [])) → c.wpIn Fence.wide n Try.prog Q { a with defers := { target := .collected D, args := #[] } :: a.defers } W) :
    (Code.rangeFunc g ps assign body).wpIn Fence.wide n Try.prog Q a w := by
  refine wpIn_rangeFunc fun fn hfn => ?_
  let rec0 : LoopState → Option Code → Loop := fun st pe => { state := st, pending := pe, fn := fn, tmps := a.tmps, params := ps, assign := assign, body := body, defers := w.heap.size }
  let W1 : World := (w.alloc (.deferred (some []))).alloc (.loop (rec0 .ready none))
  have hL1 : W1.heap[w.heap.size + 1]? = some (.loop (rec0 .ready none)) := by
    have := World.alloc_heap_new (w.alloc (.deferred (some []))) (.loop (rec0 .ready none)); rwa [World.size_alloc] at this
  have hD1 : W1.heap[w.heap.size]? = some (.deferred (some [])) := (Below.heap_alloc _ _ _ (by simp)).trans (World.alloc_heap_new w _)
  have hB1 : Below w.heap.size w W1 := ((Below.refl _ w).alloc (Nat.le_refl _) _).alloc (by simp) _
  have hz1 : W1.heap.size = w.heap.size + 2 := by show ((w.alloc _).alloc _).heap.size = _; simp
  let bnd : (Nat → Prop) → Prop := fun O => ∀ k, O k → k < w.heap.size ∨ w.heap.size + 2 ≤ k
  let J : Inv := fun pre O W => I pre O W ∧ W.heap[w.heap.size + 1]? = some (.loop (rec0 .ready none)) ∧ W.heap[w.heap.size]? = some (.deferred (some [])) ∧ bnd O
  let Jx : Inv := fun pre O W => ∃ c, Ix c pre O W ∧ W.heap[w.heap.size + 1]? = some (.loop (rec0 .done (some c))) ∧ W.heap[w.heap.size]? = some (.deferred (some [])) ∧ bnd O
  have keepAt : ∀ {A A' : World} {M : Nat → Prop} {O : Nat → Prop} {k : Nat} {o : Obj}, Chg M A A' → (∀ k, k < A.heap.size → M k → W1.heap.size ≤ k ∧ ¬ O k) → k < w.heap.size + 2 → A.heap[k]? = some o → A'.heap[k]? = some o := by
    intro A A' M O k o hc hM hk ho
    exact hc.at_ ho (fun hm => by have := (hM k (lt_of_at' ho) hm).1; omega)
  have hCJ : Calm W1.heap.size J := by
    rintro pre O A A' M ⟨h1, h2, h3, h4⟩ hc hM
    exact ⟨hI pre O A A' M h1 hc (fun k hk hm => ⟨by have := (hM k hk hm).1; omega, (hM k hk hm).2⟩), keepAt hc hM (by omega) h2, keepAt hc hM (by omega) h3, h4⟩
  have hCJx : Calm W1.heap.size Jx := by
    rintro pre O A A' M ⟨c, h1, h2, h3, h4⟩ hc hM
    exact ⟨c, hIx c pre O A A' M h1 hc (fun k hk hm => ⟨by have := (hM k hk hm).1; omega, (hM k hk hm).2⟩), keepAt hc hM (by omega) h2, keepAt hc hM (by omega) h3, h4⟩
  have hI1 : I [] O0 W1 := hI.below h0 hB1
  have hJ1 : J [] O0 W1 := ⟨hI1, hL1, hD1, fun k hk => .inl (hO0 k hk)⟩
  refine ⟨w.heap.size + 1, [{ target := .collected w.heap.size, args := #[] }], W1, { target := .fn (.func gf) lb, args := #[.func (.yield (w.heap.size + 1)) #[] #[]] }, W1, gf,
    #[.func (.yield (w.heap.size + 1)) #[] #[]] ++ lb, W1, ?_, ?_, ?_, ?_, fun _ => hn, ?_⟩
  · exact run_enterLoop_outer _ _ _ _ _
  · simp only [resolve, hg]
    simp [go_sem]
  · intro f' hf'; exact trivial
  · simp [invoke, go_sem, eg]
  · refine (hseq (w.heap.size + 1) J Jx O0 W1 (hb0.trans (hB1.mono hb0.size)) hCJ hCJx (fun pre O A h => hO pre O A h.1) ?_ hJ1).mono ?_
    · rintro m pre O x W ⟨hi, hl, hd, hbo⟩ hsz hlen
      have hOW := hO pre O W hi
      have hlt := lt_of_at' hl
      refine ⟨fn, _, assign, body, run_yield (P := Try.prog) (args := spEnc x) hl (by rw [hps]; rfl), ?_⟩
      refine anyDepth_round (m := n - 1 - 1) (roundIn_of_wpIn hfn (hassign _ x W _ ?_))
      have hl1 : (W.alloc (.cells #[.int .i64 x.1, .int .i64 x.2] 24)).heap[w.heap.size + 1]? = some (.loop (rec0 .ready none)) := Below.at' (Below.one W _) hl
      refine ⟨_, run_beginRound hl1 rfl, ?_⟩
      obtain ⟨Wa, hWa⟩ : ∃ Wa, Wa = W.alloc (.cells #[.int .i64 x.1, .int .i64 x.2] 24) := ⟨_, rfl⟩
      rw [← hWa] at hl1 ⊢
      have hba : Below W.heap.size W Wa := by rw [hWa]; exact Below.one W _
      have hxa : Wa.heap[W.heap.size]? = some (.cells #[.int .i64 x.1, .int .i64 x.2] 24 (0, 0)) := by rw [hWa]; exact World.alloc_heap_new W _
      have hza : Wa.heap.size = W.heap.size + 1 := by rw [hWa]; simp
      clear hWa
      obtain ⟨Wb, hWb⟩ : ∃ Wb, Wb = Wa.putObj (w.heap.size + 1) (.loop { rec0 .ready none with state := .busy }) := ⟨_, rfl⟩
      rw [← hWb]
      have hnO : ∀ k, k = w.heap.size ∨ k = w.heap.size + 1 → ¬ O k := fun k hk h => by have := hbo k h; omega
      have hcb : Chg (fun k => k = w.heap.size + 1) Wa Wb := by rw [hWb]; exact chg_putObj _ _ _
      have hzb : Wb.heap.size = W.heap.size + 1 := by rw [hWb]; simp [hza]
      have hlb : Wb.heap[w.heap.size + 1]? = some (.loop { rec0 .ready none with state := .busy }) := by rw [hWb]; exact World.putObj_heap_same (by omega)
      have hdb : Wb.heap[w.heap.size]? = some (.deferred (some [])) := hcb.at_ (Below.at' hba hd) (fun h => absurd h (by omega))
      have hxb : Wb.heap[W.heap.size]? = some (.cells #[.int .i64 x.1, .int .i64 x.2] 24 (0, 0)) := hcb.at_ hxa (fun h => absurd h (by omega))
      have hib : I pre O Wb := hI _ _ _ _ _ (hI.below hi hba) hcb (fun k _ hk => by subst hk; exact ⟨by omega, hnO _ (.inr rfl)⟩)
      have kept : ∀ {W3 : World} {c : Loop} b o, KeepX K w.heap.size O Wb W3 → (K b ∨ (W1.heap.size ≤ b ∧ ¬ O b)) → W.heap[b]? = some o → (W3.putObj (w.heap.size + 1) (.loop c)).heap[b]? = some o := by
        intro W3 c b o hk hb ho
        have hne : b ≠ w.heap.size + 1 := by rcases hb with h | h; { have := hK b h; omega }; { omega }
        rw [World.putObj_heap_other hne]
        refine hk.same b o (hb.imp_right fun h => ⟨by omega, h.2⟩) (hcb.at_ (Below.at' hba ho) hne)
      refine wpIn_mono (hbody _ pre O x W.heap.size Wb (by omega) ⟨_, hlb⟩ hib (by omega) (fun h => Nat.lt_irrefl _ (hOW _ h)) hxb hbo hlen) ?_
      have fin : ∀ (jump : Option Code) (W3 : World) (O' : Nat → Prop), (∀ k, O' k → O k ∨ Wb.heap.size ≤ k) → KeepX K w.heap.size O Wb W3 →
          (Instr.endRound (w.heap.size + 1) jump).run Try.prog W3 = .ok (.bool jump.isNone) (W3.putObj (w.heap.size + 1) (.loop (rec0 (if jump.isNone then .ready else .done) jump))) ∧
          (W3.putObj (w.heap.size + 1) (.loop (rec0 (if jump.isNone then .ready else .done) jump))).heap[w.heap.size + 1]? = some (.loop (rec0 (if jump.isNone then .ready else .done) jump)) ∧
          (W3.putObj (w.heap.size + 1) (.loop (rec0 (if jump.isNone then .ready else .done) jump))).heap[w.heap.size]? = some (.deferred (some [])) ∧ bnd O' ∧ (∀ k, O' k → O k ∨ W.heap.size ≤ k) ∧ ¬ O' (w.heap.size + 1) ∧ W.heap.size ≤ W3.heap.size := by
        intro jump W3 O' hO' hk
        have hl3 := hk.same _ _ (.inr ⟨by omega, hnO _ (.inr rfl)⟩) hlb
        have hd3 := hk.same _ _ (.inr ⟨by omega, hnO _ (.inl rfl)⟩) hdb
        refine ⟨run_endRound (P := Try.prog) jump hl3, World.putObj_heap_same (lt_of_at' hl3), (World.putObj_heap_other (by omega)).trans hd3, ?_, ?_, ?_, ?_⟩
        · intro k h; rcases hO' k h with h | h
          · exact hbo k h
          · omega
        · intro k h; rcases hO' k h with h | h
          · exact .inl h
          · exact .inr (by omega)
        · intro h; rcases hO' _ h with h | h
          · exact hnO _ (.inr rfl) h
          · omega
        · have := hk.size; omega
      rintro e a3 W3 hp
      cases e with
      | normal =>
        obtain ⟨O', hO', hk, hi3⟩ := hp
        obtain ⟨f1, f2, f3, f4, f5, f6, f7⟩ := fin none W3 O' hO' hk
        exact ⟨_, _, f1, O', f5, ⟨by simpa using f7, fun b o hb ho => kept b o hk hb ho⟩, .inl ⟨rfl, hI _ _ _ _ _ hi3 (chg_putObj W3 _ _) (fun k _ hk => by subst hk; exact ⟨by omega, f6⟩), f2, f3, f4⟩⟩
      | ret =>
        obtain ⟨O', hO', hk, hi3⟩ := hp
        obtain ⟨f1, f2, f3, f4, f5, f6, f7⟩ := fin (some .ret) W3 O' hO' hk
        exact ⟨_, _, f1, O', f5, ⟨by simpa using f7, fun b o hb ho => kept b o hk hb ho⟩, .inr ⟨rfl, .ret, hIx _ _ _ _ _ _ hi3 (chg_putObj W3 _ _) (fun k _ hk => by subst hk; exact ⟨by omega, f6⟩), f2, f3, f4⟩⟩
      | exit id =>
        obtain ⟨O', hO', hk, hi3⟩ := hp
        obtain ⟨f1, f2, f3, f4, f5, f6, f7⟩ := fin (some (.exit id)) W3 O' hO' hk
        exact ⟨_, _, f1, O', f5, ⟨by simpa using f7, fun b o hb ho => kept b o hk hb ho⟩, .inr ⟨rfl, .exit id, hIx _ _ _ _ _ _ hi3 (chg_putObj W3 _ _) (fun k _ hk => by subst hk; exact ⟨by omega, f6⟩), f2, f3, f4⟩⟩
      | goto t => exact hp.elim
      | panic ch => exact hp.elim
      | outgrown => exact hp.elim
    · rintro e W2 ⟨⟨v, rfl⟩, ⟨O, hi, hl, hd, hbo⟩ | ⟨pre, O, hpre, c, hi, hl, hd, hbo⟩⟩
      · have hnO : ∀ k, k = w.heap.size ∨ k = w.heap.size + 1 → ¬ O k := fun k hk h => by have := hbo k h; omega
        refine ⟨none, _, run_endLoop (P := Try.prog) hl (by simp [rec0]), hdone _ O _ (Nat.le_refl _) ?_ (hnO _ (.inl rfl)) ((World.putObj_heap_other (by omega)).trans hd)⟩
        exact hI _ _ _ _ _ hi (chg_putObj W2 (w.heap.size + 1) _) (fun k _ hk => by subst hk; exact ⟨by omega, hnO _ (.inr rfl)⟩)
      · have hnO : ∀ k, k = w.heap.size ∨ k = w.heap.size + 1 → ¬ O k := fun k hk h => by have := hbo k h; omega
        refine ⟨some c, _, run_endLoop (P := Try.prog) hl (by simp [rec0]), hstop _ c pre O _ (Nat.le_refl _) hpre ?_ (hnO _ (.inl rfl)) ((World.putObj_heap_other (by omega)).trans hd)⟩
        exact hIx c _ _ _ _ _ hi (chg_putObj W2 (w.heap.size + 1) _) (fun k _ hk => by subst hk; exact ⟨by omega, hnO _ (.inr rfl)⟩)
end Go.Proofs.Ytcifbcdjkofomaa
