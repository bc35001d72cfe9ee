/-
  The gaps' iterator. Conditions: as at the runs that meet a span.
-/
import Derived.Test.YtcifbcdjkofomaaGaps
namespace Go.Proofs.Ytcifbcdjkofomaa
open Go.RowKit Go.Shelf
set_option linter.unusedVariables false
set_option linter.unusedSimpArgs false

attribute [local go_sem] Oper.semAt_some run_min run_max run_field24_0 run_field24_1

/-- What 58 knows between two rounds of its own loop. -/
def GapI (J : Inv) (s : Sp) (W0 B2 q y bs : Nat) (lp : Nat) : Inv := fun pre O A =>
  J (gapsTo s.1 pre).1 O A ∧ A.heap[q]? = some (.cells #[.int .i64 (gapsTo s.1 pre).2] 3 (0, 0)) ∧ A.heap[y]? = some (.cells #[.func (.yield lp) #[] #[]] 95 (0, 0)) ∧
    A.heap[bs]? = some (.cells #[.int .i64 s.1, .int .i64 s.2] 24 (0, 0)) ∧ W0 ≤ A.heap.size ∧ (∀ k, O k → k < W0 ∨ B2 ≤ k)

set_option maxRecDepth 100000 in
set_option maxHeartbeats 4000000 in
theorem gaps_in (n lp br bs : Nat) (hn : Hid (5 ≤ n)) (p : Option Addr) (s : Sp) (ms : List Sp) (K : Nat → Prop) (J Jx : Inv) (O0 : Nat → Prop) (W : World)
    (hms : ∀ W2 b2 s2, Below W.heap.size W W2 → W2.heap[b2]? = some (.cells #[.pointer p] 26 (0, 0)) → W2.heap[s2]? = some (.cells #[.int .i64 s.1, .int .i64 s.2] 24 (0, 0)) →
      Gives (n - 1) 90 #[.pointer (some ⟨b2, 0, none⟩), .pointer (some ⟨s2, 0, none⟩)] (fun k => K k ∨ k = b2 ∨ k = s2) ms W2)
    (hK : ∀ k, K k → k < W.heap.size) (hKb : K bs)
    (hCJ : Calm W.heap.size J) (hCJx : Calm W.heap.size Jx) (hO : ∀ pre O A, J pre O A → ∀ k, O k → k < A.heap.size)
    (hY : ∀ m pre O x W1, J pre O W1 → W.heap.size ≤ W1.heap.size → (pre ++ [x]) <+: gapsOf s ms → YieldAt Fence.wide m Try.prog lp (spEnc x) W1 (RoundEnds K W.heap.size J Jx (pre ++ [x]) O W1))
    (hr : W.heap[br]? = some (.cells #[.pointer p] 26 (0, 0))) (hs : W.heap[bs]? = some (.cells #[.int .i64 s.1, .int .i64 s.2] 24 (0, 0))) (h0 : J [] O0 W) :
    CallsIn Fence.wide n Try.prog 58 #[.func (.yield lp) #[] #[], .pointer (some ⟨bs, 0, none⟩), .pointer (some ⟨br, 0, none⟩)] W fun e W' => (∃ v, e = .returned v) ∧
      ((∃ O, J (gapsOf s ms) O W') ∨ (∃ pre O, pre <+: gapsOf s ms ∧ Jx pre O W')) := by
  have c1 : W.cell? ⟨br, 0, none⟩ = some (.pointer p) := by rw [cell_of_at hr]; rfl
  have c2 : W.cell? ⟨bs, 0, none⟩ = some (.int .i64 s.1) := by rw [cell_of_at hs]; rfl
  have c3 : W.cell? ⟨bs, 1, none⟩ = some (.int .i64 s.2) := by rw [cell_of_at hs]; rfl
  have hO0 := hO [] O0 W h0
  have HH := Lib.hid (And.intro hms (And.intro hK (And.intro hKb (And.intro hCJ (And.intro hCJx (And.intro hO (And.intro hY (And.intro h0 hO0))))))))
  have HHS := Lib.hid hs
  clear hms hK hKb hCJ hCJx hO hY h0 hr hs hO0
  refine callsIn_of_wp_marks Try.func58 rfl trivial ?_ rfl
  simp only [Try.ntmps58, List.size_toArray, List.length_cons, List.length_nil, Nat.reduceAdd, Nat.reduceSub, Array.replicate_succ, Array.replicate_zero, List.push_toArray, List.append_toArray, List.nil_append, List.cons_append]
  have q1 := World.block_lt_of_cell? W _ c1
  have q2 := World.block_lt_of_cell? W _ c2
  dsimp only at q1 q2
  gi_wp2_with fail
  refine ⟨trivial, (fun h => by cases h), ?_⟩; refine callsIn_wide.2 ((len_any s.1 s.2 _).mono ?_)
  rintro e w1 ⟨rfl, hb1⟩
  have x0 := Below.cell' hb1 (p := ⟨bs, 0, none⟩) (v := (.int .i64 s.1)) (by go_simp); have x1 := Below.cell' hb1 (p := ⟨bs, 1, none⟩) (v := (.int .i64 s.2)) (by go_simp); have y0 := Below.cell' hb1 (p := ⟨W.heap.size, 0, none⟩) (v := (.func (.yield lp) #[] #[])) (by go_simp); have yf := Below.frozen' hb1 (p := ⟨W.heap.size, 0, none⟩) (v := (.func (.yield lp) #[] #[])) (by go_simp) (by go_simp); have z0 := Below.cell' hb1 (p := ⟨br, 0, none⟩) (v := (.pointer p)) (by go_simp); have hz1 := hb1.size; (try simp only [World.size_alloc, World.size_setCell] at hz1)
  have hy1 : w1.heap[W.heap.size]? = some (.cells #[.func (.yield lp) #[] #[]] 95 (0, 0)) := Below.at' hb1 (World.alloc_heap_new W _)
  have HB1 : Hid (Below W.heap.size W w1) := Below.then_ (by (repeat (with_reducible first | exact Below.refl _ _ | assumption | (refine Below.setCell ?_ (by first | (simp; done) | (simp; omega) | omega) _) | (refine Below.alloc ?_ (by first | (simp; done) | (simp; omega) | omega) _) | refine Below.drew ?_ | refine Below.drewN_ ?_ _ | (refine Below.then_ ?_ (by with_reducible assumption))))) hb1
  have q3 := World.block_lt_of_cell? w1 _ x0
  have q4 := World.block_lt_of_cell? w1 _ z0
  dsimp only at q3 q4
  clear hb1 c1 c2 c3
  by_cases hs0 : spLen s.1 s.2 = 0
  · have hg : gapsOf s ms = [] := if_pos hs0
    have HG := Lib.hid (And.intro hg (HH.out.2.2.2.1.below HH.out.2.2.2.2.2.2.2.1 HB1.out)); clear hg
    have hy1 := Lib.hid hy1
    gi_wp2_with fail
    refine ⟨_, results_none rfl _ _ _, ⟨_, rfl⟩, .inl ⟨_, by rw [HG.out.1]; exact HG.out.2⟩⟩
  · have hg : gapsOf s ms = (gapsTo s.1 ms).1 ++ (if (gapsTo s.1 ms).2 < s.2 then [((gapsTo s.1 ms).2, s.2)] else []) := if_neg hs0
    have HG := Lib.hid (And.intro hg hy1); clear hg hy1
    gi_wp2_with fail
    refine ⟨trivial, (fun h => by cases h), ?_⟩; refine callsIn_wide.2 ((meets_any p s _).mono ?_)
    rintro e w2 ⟨rfl, hw2⟩
    have hS : w2.heap[w1.heap.size + 1]? = some (.cells #[.pointer p] 26 (0, 0)) := by
      rw [hw2]
      have := World.alloc_heap_new (w1.alloc (.cells #[.int .i64 s.1] 3)) (.cells #[.pointer p] 26)
      rw [World.size_alloc] at this
      exact (Below.heap_alloc _ _ _ (by simp)).trans this
    have hT : w2.heap[w1.heap.size + 2]? = some (.cells #[.int .i64 s.1, .int .i64 s.2] 24 (0, 0)) := by
      rw [hw2]
      have := World.alloc_heap_new ((w1.alloc (.cells #[.int .i64 s.1] 3)).alloc (.cells #[.pointer p] 26)) (.cells #[.int .i64 s.1, .int .i64 s.2] 24)
      rwa [World.size_alloc, World.size_alloc] at this
    have hq : w2.heap[w1.heap.size]? = some (.cells #[.int .i64 s.1] 3 (0, 0)) := by
      rw [hw2]
      exact (Below.heap_alloc _ _ _ (by simp; omega)).trans ((Below.heap_alloc _ _ _ (by simp)).trans (World.alloc_heap_new w1 _))
    have hB2 : Below w1.heap.size w1 w2 := by rw [hw2]; (repeat (with_reducible first | exact Below.refl _ _ | assumption | (refine Below.setCell ?_ (by first | (simp; done) | (simp; omega) | omega) _) | (refine Below.alloc ?_ (by first | (simp; done) | (simp; omega) | omega) _) | refine Below.drew ?_ | refine Below.drewN_ ?_ _ | (refine Below.then_ ?_ (by with_reducible assumption))))
    have hz2 : w2.heap.size = w1.heap.size + 3 := by rw [hw2]; simp
    clear hw2
    have hBW : Below W.heap.size W w2 := Below.then_ HB1.out hB2
    have HX := Lib.hid (And.intro hS (And.intro hT (And.intro hq (And.intro hB2 (And.intro hz2 hBW)))))
    clear hS hT hq hB2 hz2 hBW x0 x1 y0 yf z0
    gi_wp2_with fail
    obtain ⟨hS, hT, hq, hB2, hz2, hBW⟩ := HX.out
    obtain ⟨hms, hK, hKb, hCJ, hCJx, hO, hY, h0, hO0⟩ := HH.out
    refine range_gives (by have := hn.out; omega) (gf := 90) (lb := #[.pointer (some ⟨w1.heap.size + 1, 0, none⟩), .pointer (some ⟨w1.heap.size + 2, 0, none⟩)]) rfl (enters_of Try.func90 (by kernel_rfl) rfl)
      (hms w2 _ _ hBW hS hT) (Below.refl _ _) rfl (by rintro k (h | rfl | rfl); { have := hK k h; omega }; { omega }; { omega })
      (GapI J s W.heap.size w2.heap.size w1.heap.size W.heap.size bs lp) (fun c pre O A => c = .ret ∧ ∃ pre', pre' <+: gapsOf s ms ∧ Jx pre' O A)
      ?hI ?hIx ?hOI O0 (fun k hk => by have := hO0 k hk; omega) ?h0 
      (fun x Bx => { tmps := #[.func (.yield lp) #[] #[], .pointer (some ⟨bs, 0, none⟩), .pointer (some ⟨br, 0, none⟩), .pointer (some ⟨W.heap.size, 0, none⟩), .pointer (some ⟨w1.heap.size, 0, none⟩), .pointer (some ⟨Bx, 0, none⟩), .agg #[.int .i64 s.1, .int .i64 s.2], .int .i64 (spLen s.1 s.2), .bool false, .pointer (some ⟨bs, 0, none⟩), .int .i64 s.1, .pointer p, .agg #[.int .i64 s.1, .int .i64 s.2], .func (.func 90) #[] #[.pointer (some ⟨w1.heap.size + 1, 0, none⟩), .pointer (some ⟨w1.heap.size + 2, 0, none⟩)], .agg #[.int .i64 x.1, .int .i64 x.2], undef, undef, undef, undef, undef, undef, undef, undef, undef, undef, undef, undef, undef, undef, undef, undef, undef, undef, undef, undef, undef, undef, undef, undef, undef], defers := [] })
      ?assign ?body ?done ?stop
    case hI =>
      rintro pre O A A' M ⟨h1, h2, h3, h4, h5, h6⟩ hc hM
      have hk : ∀ {k o}, k < w2.heap.size → A.heap[k]? = some o → A'.heap[k]? = some o := fun hlt ho => hc.at_ ho (fun hm => by have := (hM _ (lt_of_at' ho) hm).1; omega)
      exact ⟨hCJ _ _ _ _ M h1 hc (fun k hk hm => ⟨by have := (hM k hk hm).1; omega, (hM k hk hm).2⟩), hk (by omega) h2, hk (by omega) h3, hk (by omega) h4, Nat.le_trans h5 hc.size, h6⟩
    case hIx =>
      rintro c pre O A A' M ⟨hc0, pre', hp, h1⟩ hc hM
      exact ⟨hc0, pre', hp, hCJx _ _ _ _ M h1 hc (fun k hk hm => ⟨by have := (hM k hk hm).1; omega, (hM k hk hm).2⟩)⟩
    case hOI => exact fun pre O A h => hO _ _ _ h.1
    case h0 =>
      exact ⟨hCJ.below h0 hBW, hq, Below.at' hB2 HG.out.2, Below.at' hBW HHS.out, by omega, fun k hk => .inl (hO0 k hk)⟩
    case assign =>
      rintro l x V P hP
      have HP := Lib.hid hP; clear hP
      simp only [spEnc]
      gi_wp2
      exact HP.out
    case body =>
      rintro l pre O x Bx V hlp hr ⟨h1, h2, h3, h4, h5, h6⟩ hBx hOB hX hbo hpre
      obtain ⟨cur, hcur⟩ : ∃ cur, cur = (gapsTo s.1 pre).2 := ⟨_, rfl⟩
      have hsn := gapsTo_snoc x pre s.1
      rw [← hcur] at h2 hsn
      have d0 : V.cell? ⟨w1.heap.size, 0, none⟩ = some (.int .i64 cur) := by rw [cell_of_at h2]; rfl
      have df : V.frozen? ⟨w1.heap.size, 0, none⟩ = false := frozen_of_at h2 0
      have d1 : V.cell? ⟨W.heap.size, 0, none⟩ = some (.func (.yield lp) #[] #[]) := by rw [cell_of_at h3]; rfl
      have d2 : V.cell? ⟨Bx, 0, none⟩ = some (.int .i64 x.1) := by rw [cell_of_at hX]; rfl
      have d3 : V.cell? ⟨Bx, 1, none⟩ = some (.int .i64 x.2) := by rw [cell_of_at hX]; rfl
      have hnOq : ¬ O w1.heap.size := fun h => by have := h6 _ h; omega
      have hnOy : ¬ O W.heap.size := fun h => by have := h6 _ h; omega
      have HV := Lib.hid (And.intro h1 (And.intro h2 (And.intro h3 (And.intro h4 (And.intro h5 (And.intro h6 (And.intro hX (And.intro hsn hr))))))))
      have HC := Lib.hid hcur
      have hVz : w2.heap.size ≤ V.heap.size := by
        have := lt_of_at' hX; omega
      clear h1 h2 h3 h4 h5 h6 hX hsn hr hcur
      have nxt : ∀ (a' : Act) (V2 : World) (O' : Nat → Prop), (∀ k, O' k → O k ∨ V.heap.size ≤ k) → KeepX K W.heap.size O V V2 → J (gapsTo s.1 (pre ++ [x])).1 O' V2 →
          BodyEnds (fun k => K k ∨ k = w1.heap.size + 1 ∨ k = w1.heap.size + 2) w2.heap.size (GapI J s W.heap.size w2.heap.size w1.heap.size W.heap.size bs lp)
            (fun c pre O A => c = Code.ret ∧ ∃ pre', pre' <+: gapsOf s ms ∧ Jx pre' O A) (pre ++ [x]) O V Exit.normal a' (V2.setCell ⟨w1.heap.size, 0, none⟩ (.int .i64 x.2)) := by
        intro a' V2 O' hO' hkx hj
        obtain ⟨h1, h2, h3, h4, h5, h6, hX, hsn, hr⟩ := HV.out
        have hb6 : ∀ k, O' k → k < W.heap.size ∨ w2.heap.size ≤ k := fun k h => by rcases hO' k h with h | h; { exact h6 k h }; { exact .inr (by omega) }
        have oth : ∀ b o, b ≠ w1.heap.size → (K b ∨ (W.heap.size ≤ b ∧ ¬ O b)) → V.heap[b]? = some o → (V2.setCell ⟨w1.heap.size, 0, none⟩ (.int .i64 x.2)).heap[b]? = some o := fun b o hne hb ho => by
          rw [heap_setCell_other _ _ _ _ hne]; exact hkx.same b o hb ho
        refine ⟨O', hO', ⟨by simp; exact hkx.size, fun b o hb ho => ?_⟩, ?_, ?_, ?_, ?_, ?_, hb6⟩
        · have hb' : b ≠ w1.heap.size ∧ (K b ∨ (W.heap.size ≤ b ∧ ¬ O b)) := by
            rcases hb with (h | rfl | rfl) | h
            · exact ⟨by have := hK b h; omega, .inl h⟩
            · exact ⟨by omega, .inr ⟨by omega, fun h => by have := h6 _ h; omega⟩⟩
            · exact ⟨by omega, .inr ⟨by omega, fun h => by have := h6 _ h; omega⟩⟩
            · exact ⟨by omega, .inr ⟨by omega, h.2⟩⟩
          exact oth b o hb'.1 hb'.2 ho
        · exact hCJ _ _ _ _ (fun k => k = w1.heap.size) hj (Chg.setCell (fun k => k = w1.heap.size) V2 (p := ⟨w1.heap.size, 0, none⟩) rfl _) (fun k _ e => by subst e; exact ⟨by omega, fun h => by have := hb6 _ h; omega⟩)
        · rw [hsn]
          exact (heap_setCell_same V2 w1.heap.size 0 _ _ _ (hkx.same _ _ (.inr ⟨by omega, hnOq⟩) h2)).trans rfl
        · exact oth _ _ (by omega) (.inr ⟨by omega, hnOy⟩) h3
        · exact oth _ _ (by omega) (.inl hKb) h4
        · simp; exact Nat.le_trans h5 hkx.size
      have HN := Lib.hid nxt; clear nxt
      by_cases hlt : cur < x.1
      · have hpp : ((gapsTo s.1 pre).1 ++ [(cur, x.1)]) <+: gapsOf s ms := by
          have := gapsTo_prefix hpre s.1
          rw [HV.out.2.2.2.2.2.2.2.1, if_pos hlt] at this
          rw [HG.out.1]
          exact this.trans (List.prefix_append _ _)
        obtain ⟨fn, tmps, assign, body, hy, hR⟩ := hY (n - 1 - 1 - 1) (gapsTo s.1 pre).1 O (cur, x.1) V HV.out.1 HV.out.2.2.2.2.1 hpp
        have HR := Lib.hid hR; clear hR
        dsimp only [spEnc] at hy
        clear hms hK hKb hCJ hCJx hO hY h0 hO0 hS hT hq hB2 hBW
        gi_wp2_with fail
        refine ⟨(fun h => by cases h), ?_⟩
        refine RoundIn.mono (R := RoundEnds K W.heap.size J Jx ((gapsTo s.1 pre).1 ++ [(cur, x.1)]) O V) HR.out ?_
        clear hy
        rintro e V2 ⟨O', hO', hkx, ⟨rfl, hj⟩ | ⟨rfl, hj⟩⟩
        · have e0 : V2.cell? ⟨w1.heap.size, 0, none⟩ = some (.int .i64 cur) := by rw [cell_of_at (hkx.same _ _ (.inr ⟨by omega, hnOq⟩) HV.out.2.1)]; rfl
          have ef : V2.frozen? ⟨w1.heap.size, 0, none⟩ = false := frozen_of_at (hkx.same _ _ (.inr ⟨by omega, hnOq⟩) HV.out.2.1) 0
          have e3 : V2.cell? ⟨Bx, 1, none⟩ = some (.int .i64 x.2) := by rw [cell_of_at (hkx.same _ _ (.inr ⟨by omega, hOB⟩) HV.out.2.2.2.2.2.2.1)]; rfl
          have HK := Lib.hid (And.intro hO' (And.intro hkx hj)); clear hO' hkx hj
          gi_wp2_with fail
          exact HN.out _ V2 O' HK.out.1 HK.out.2.1 (by rw [HV.out.2.2.2.2.2.2.2.1, if_pos hlt]; exact HK.out.2.2)
        · have HK := Lib.hid (And.intro hO' (And.intro hkx hj)); clear hO' hkx hj
          gi_wp2_with fail
          obtain ⟨hO', hkx, hj⟩ := HK.out
          refine ⟨O', hO', ⟨hkx.size, fun b o hb ho => hkx.same b o ?_ ho⟩, rfl, _, hpp, hj⟩
          rcases hb with (h | rfl | rfl) | h
          · exact .inl h
          · exact .inr ⟨by omega, fun h => by have := HV.out.2.2.2.2.2.1 _ h; omega⟩
          · exact .inr ⟨by omega, fun h => by have := HV.out.2.2.2.2.2.1 _ h; omega⟩
          · exact .inr ⟨by omega, h.2⟩
      · clear hms hK hKb hCJ hCJx hO hY h0 hO0 hS hT hq hB2 hBW
        gi_wp2_with fail
        refine ⟨(fun f h => by cases h), ?_⟩
        gi_wp2_with fail
        exact HN.out _ V O (fun k h => .inl h) ⟨Nat.le_refl _, fun _ _ _ h => h⟩ (by rw [HV.out.2.2.2.2.2.2.2.1, if_neg (by omega), List.append_nil]; exact HV.out.1)
    case done =>
      rintro D O V hD ⟨h1, h2, h3, h4, h5, h6⟩ hOD hDV
      obtain ⟨cur, hcur⟩ : ∃ cur, cur = (gapsTo s.1 ms).2 := ⟨_, rfl⟩
      have hgg := HG.out.1
      rw [← hcur] at h2 hgg
      have d0 : V.cell? ⟨w1.heap.size, 0, none⟩ = some (.int .i64 cur) := by rw [cell_of_at h2]; rfl
      have d1 : V.cell? ⟨W.heap.size, 0, none⟩ = some (.func (.yield lp) #[] #[]) := by rw [cell_of_at h3]; rfl
      have d3 : V.cell? ⟨bs, 1, none⟩ = some (.int .i64 s.2) := by rw [cell_of_at h4]; rfl
      by_cases hlt : cur < s.2
      · rw [if_pos hlt] at hgg
        have hpp : ((gapsTo s.1 ms).1 ++ [(cur, s.2)]) <+: gapsOf s ms := by rw [hgg]; exact List.prefix_refl _
        obtain ⟨fn, tmps, assign, body, hy, hR⟩ := hY (n - 1) (gapsTo s.1 ms).1 O (cur, s.2) V h1 h5 hpp
        have HR := Lib.hid hR; clear hR
        have HV := Lib.hid (And.intro h6 (And.intro hOD (And.intro hDV hgg)))
        have HC := Lib.hid hcur
        dsimp only [spEnc] at hy
        clear h1 h2 h3 h4 h5 h6 hgg hcur hOD hDV
        gi_wp2_with fail
        refine ⟨(fun h => by cases h), ?_⟩
        refine RoundIn.mono (R := RoundEnds K W.heap.size J Jx ((gapsTo s.1 ms).1 ++ [(cur, s.2)]) O V) HR.out ?_
        clear hy
        rintro e V2 ⟨O', hO', hkx, h⟩
        obtain ⟨h6, hOD, hDV, hgg⟩ := HV.out
        have hDz : D < V.heap.size := lt_of_at' hDV
        have hD2 : V2.heap[D]? = some (.deferred (some [])) := hkx.same _ _ (.inr ⟨by omega, hOD⟩) hDV
        have hOD2 : ¬ O' D := fun h => by rcases hO' D h with h | h; { exact hOD h }; { omega }
        obtain ⟨r, rfl, hend⟩ : ∃ r : Bool, e = .returned (.bool r) ∧ ((∃ O, J (gapsOf s ms) O (V2.putObj D (.deferred none))) ∨ (∃ pre O, pre <+: gapsOf s ms ∧ Jx pre O (V2.putObj D (.deferred none)))) := by
          rcases h with ⟨rfl, hj⟩ | ⟨rfl, hj⟩
          · exact ⟨true, rfl, .inl ⟨O', by rw [hgg]; exact hCJ _ _ _ _ _ hj (chg_putObj V2 D _) (fun k _ e => by subst e; exact ⟨by omega, hOD2⟩)⟩⟩
          · exact ⟨false, rfl, .inr ⟨_, O', hpp, hCJx _ _ _ _ _ hj (chg_putObj V2 D _) (fun k _ e => by subst e; exact ⟨by omega, hOD2⟩)⟩⟩
        have HE := Lib.hid (And.intro hend hD2)
        clear hend hD2 h hkx hO' hOD2
        gi_wp2_with fail
        refine ⟨by simp, .inl ⟨_, _, rfl, run_takeDeferred HE.out.2, ?_⟩⟩
        exact ⟨_, results_none rfl _ _ _, ⟨_, rfl⟩, HE.out.1⟩
      · rw [if_neg hlt, List.append_nil] at hgg
        have hj := hCJ _ _ _ _ _ h1 (chg_putObj V D (.deferred none)) (fun k _ e => by subst e; exact ⟨by omega, hOD⟩)
        rw [← hgg] at hj
        have HE := Lib.hid (And.intro hj hDV)
        clear hj h1 h2 h3 h4 h5 h6 hgg hcur hOD hDV
        gi_wp2_with fail
        refine ⟨by simp, .inl ⟨_, _, rfl, run_takeDeferred HE.out.2, ?_⟩⟩
        exact ⟨_, results_none rfl _ _ _, ⟨_, rfl⟩, .inl ⟨_, HE.out.1⟩⟩
    case stop =>
      rintro D c pre O V hD hpre ⟨rfl, pre', hp', h1⟩ hOD hDV
      have hj := hCJx _ _ _ _ _ h1 (chg_putObj V D (.deferred none)) (fun k _ e => by subst e; exact ⟨by omega, hOD⟩)
      gi_wp2_with fail
      refine ⟨by simp, .inl ⟨_, _, rfl, run_takeDeferred hDV, ?_⟩⟩
      exact ⟨_, results_none rfl _ _ _, ⟨_, rfl⟩, .inr ⟨_, _, hp', hj⟩⟩
theorem gapsNil_gives (n br bs : Nat) (hn : Hid (5 ≤ n)) (s : Sp) (K : Nat → Prop) (hKs : K bs) (w : World) (hK : ∀ k, K k → k < w.heap.size)
    (hr : w.heap[br]? = some (.cells #[.pointer none] 26 (0, 0))) (hs : w.heap[bs]? = some (.cells #[.int .i64 s.1, .int .i64 s.2] 24 (0, 0))) :
    Gives n 58 #[.pointer (some ⟨bs, 0, none⟩), .pointer (some ⟨br, 0, none⟩)] K (gapsOf s []) w :=
  fun lp J Jx O0 W hW hCJ hCJx hO hY h0 =>
    gaps_in n lp br bs hn none s [] K J Jx O0 W (fun W2 b2 s2 hb h1 h2 => gives_of_stopsNil _ (meetsNil_stops (n - 1) b2 s2 W2 h1)) (fun k h => Nat.lt_of_lt_of_le (hK k h) hW.size) hKs hCJ hCJx hO hY (Below.at' hW hr) (Below.at' hW hs) h0
theorem gaps_gives (n br bs b : Nat) (hn : Hid (5 ≤ n)) (s : Sp) (v : Value) (l : List Sp) (hl : l.length ≤ 4611686018427387904) (K : Nat → Prop) (hKs : K bs) (hKb : K b) (hKv : ∀ k, some k = v.ownBlock → K k)
    (hri : Rises l (fun y => decide (s.1 < y.2))) (w : World) (hI : IsRuns w b v l) (hK : ∀ k, K k → k < w.heap.size)
    (hr : w.heap[br]? = some (.cells #[.pointer (some ⟨b, 0, none⟩)] 26 (0, 0))) (hs : w.heap[bs]? = some (.cells #[.int .i64 s.1, .int .i64 s.2] 24 (0, 0))) :
    Gives n 58 #[.pointer (some ⟨bs, 0, none⟩), .pointer (some ⟨br, 0, none⟩)] K (gapsOf s (meetsL s (l.drop (firstIdx (fun y => decide (s.1 < y.2)) l)))) w :=
  fun lp J Jx O0 W hW hCJ hCJx hO hY h0 =>
    gaps_in n lp br bs hn (some ⟨b, 0, none⟩) s _ K J Jx O0 W (fun W2 b2 s2 hb h1 h2 => meets_gives (n - 1) b2 s2 b _ v l s hl _ (by
        rintro k (rfl | rfl | rfl | e)
        · exact .inr (.inl rfl)
        · exact .inr (.inr rfl)
        · exact .inl hKb
        · exact .inl (hKv k e)) hri (firstOf_idx _ l hri) W2 ⟨(hI.below hW).below hb, h1, h2⟩) (fun k h => Nat.lt_of_lt_of_le (hK k h) hW.size) hKs hCJ hCJx hO hY (Below.at' hW hr) (Below.at' hW hs) h0
end Go.Proofs.Ytcifbcdjkofomaa
