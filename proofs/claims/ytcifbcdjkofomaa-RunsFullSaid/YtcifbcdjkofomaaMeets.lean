/-
  The runs that meet a span, one by one: the iterator's contract. Conditions: the set is a row of spans of its own, and a loop's body keeps it.
-/
import Derived.Test.YtcifbcdjkofomaaRuns2
namespace Go.Proofs.Ytcifbcdjkofomaa
open Go.RowKit Go.Shelf
set_option linter.unusedVariables false
set_option linter.unusedSimpArgs false

attribute [local go_sem] Oper.semAt_some run_min run_max run_field24_0 run_field24_1

/-- What a round keeps: the blocks of K. -/
def KeepB (K : Nat → Prop) (W W' : World) : Prop := W.heap.size ≤ W'.heap.size ∧ ∀ b, K b → W'.heap[b]? = W.heap[b]?
theorem KeepB.refl (K : Nat → Prop) (W : World) : KeepB K W W := ⟨Nat.le_refl _, fun _ _ => rfl⟩
theorem KeepB.trans {K : Nat → Prop} {A B C : World} (h : KeepB K A B) (k : KeepB K B C) : KeepB K A C := ⟨Nat.le_trans h.1 k.1, fun b hb => (k.2 b hb).trans (h.2 b hb)⟩
theorem KeepB.put {K : Nat → Prop} {w : World} (hK : ∀ b, K b → b < w.heap.size) (W : World) (l : Nat) (o o' : Obj) (hl : w.heap.size ≤ l) (h : W.heap[l]? = some o) (_ : o.isCells = false) (_ : o.isWalk = false) : KeepB K W (W.putObj l o') :=
  ⟨by simp [World.putObj], fun b hb => World.putObj_heap_other (by have := hK b hb; omega)⟩
theorem KeepB.of_below {K : Nat → Prop} {A B : World} (h : Below A.heap.size A B) (hK : ∀ b, K b → b < A.heap.size) : KeepB K A B := ⟨h.size, fun b hb => h.block b (hK b hb)⟩
theorem KeepB.of_chg {K M : Nat → Prop} {A B : World} (h : Chg M A B) (hK : ∀ b, K b → b < A.heap.size ∧ ¬ M b) : KeepB K A B := ⟨h.size, fun b hb => h.block b (hK b hb).1 (hK b hb).2⟩
theorem KeepB.at_ {K : Nat → Prop} {A B : World} (h : KeepB K A B) {b : Nat} {o : Obj} (hb : K b) (ho : A.heap[b]? = some o) : B.heap[b]? = some o := (h.2 b hb).trans ho
theorem KeepB.cell {K : Nat → Prop} {A B : World} (h : KeepB K A B) {p : Addr} {v : Value} (hb : K p.block) (ho : A.cell? p = some v) : B.cell? p = some v := (World.cell?_of_block (w := A) (h.2 p.block hb)).trans ho

def spEnc (x : Sp) : Array Value := #[.agg #[.int .i64 x.1, .int .i64 x.2]]
def meetOf (s x : Sp) : Sp := spMeet x.1 x.2 s.1 s.2
def meetsL (s : Sp) : List Sp → List Sp
  | [] => []
  | x :: l => if x.1 < s.2 then meetOf s x :: meetsL s l else []
theorem meetsL_drop (s : Sp) (l : List Sp) (i : Nat) (h : i < l.length) : meetsL s (l.drop i) = if (atS l i).1 < s.2 then meetOf s (atS l i) :: meetsL s (l.drop (i + 1)) else [] := by
  rw [List.drop_eq_getElem_cons h, meetsL, atS_get l i h]
/-- The first place whose run ends above x. -/
def endsAbove (l : List Sp) (x : Int) : Nat := l.findIdx (fun y => decide (x < y.2))
theorem firstOf_unique {n : Nat} {q : Nat → Bool} {a b : Nat} (ha : FirstOf n q a) (hb : FirstOf n q b) : a = b := by
  obtain ⟨a1, a2, a3⟩ := ha
  obtain ⟨b1, b2, b3⟩ := hb
  rcases Nat.lt_trichotomy a b with h | h | h
  · have := b2 a h; rw [a3 a (Nat.le_refl _) (by omega)] at this; cases this
  · exact h
  · have := a2 b h; rw [b3 b (Nat.le_refl _) (by omega)] at this; cases this

structure SeqOf (w : World) (br bs b : Nat) (v : Value) (l : List Sp) (s : Sp) : Prop where
  runs : IsRuns w b v l
  cr : w.heap[br]? = some (.cells #[.pointer (some ⟨b, 0, none⟩)] 26 (0, 0))
  cs : w.heap[bs]? = some (.cells #[.int .i64 s.1, .int .i64 s.2] 24 (0, 0))
def seqK (br bs b : Nat) (v : Value) (k : Nat) : Prop := k = br ∨ k = bs ∨ k = b ∨ some k = v.ownBlock
theorem IsRuns.keep {K : Nat → Prop} {w w' : World} {b : Nat} {v : Value} {l : List Sp} (h : IsRuns w b v l) (hk : KeepB K w w') (h1 : K b) (h2 : ∀ k, v.ownBlock = some k → K k) : IsRuns w' b v l := by
  refine ⟨hk.at_ h1 h.box, h.row.1, ?_⟩
  rcases h.row.2 with h2' | ⟨g, cap, cur, rfl, hg, hh, r⟩
  · exact .inl h2'
  · exact .inr ⟨g, cap, cur, rfl, hg, hk.at_ (h2 g (by simp [Value.ownBlock])) hh, r⟩
theorem SeqOf.keep {w w' : World} {br bs b : Nat} {v : Value} {l : List Sp} {s : Sp} (h : SeqOf w br bs b v l s) (hk : KeepB (seqK br bs b v) w w') : SeqOf w' br bs b v l s :=
  ⟨h.runs.keep hk (.inr (.inr (.inl rfl))) (fun k e => .inr (.inr (.inr e.symm))), hk.at_ (.inl rfl) h.cr, hk.at_ (.inr (.inl rfl)) h.cs⟩
theorem SeqOf.below {w w' : World} {br bs b : Nat} {v : Value} {l : List Sp} {s : Sp} (h : SeqOf w br bs b v l s) (hb : Below w.heap.size w w') : SeqOf w' br bs b v l s :=
  ⟨h.runs.below hb, Below.at' hb h.cr, Below.at' hb h.cs⟩
theorem SeqOf.lt {w : World} {br bs b : Nat} {v : Value} {l : List Sp} {s : Sp} (h : SeqOf w br bs b v l s) : ∀ k, seqK br bs b v k → k < w.heap.size := by
  rintro k (rfl | rfl | rfl | e)
  · exact lt_of_at h.cr
  · exact lt_of_at h.cs
  · exact h.runs.lt
  · exact h.runs.row.lt e.symm

/-- How a round of a loop may end: it goes on, or it says 'no more'. -/
def YieldPost (pre : List Sp) (J Jx : List Sp → World → Prop) (Kp : World → World → Prop) (W : World) (e : Ending) (W' : World) : Prop :=
  ∃ r : Bool, e = .returned (.bool r) ∧ Hid ((r = true ∧ J pre W' ∧ Kp W W') ∨ (r = false ∧ Jx pre W'))
set_option maxRecDepth 100000 in
set_option maxHeartbeats 4000000 in
theorem meets1_in (n lp br bs b k0 : Nat) (v : Value) (l : List Sp) (s : Sp) (J Jx : List Sp → World → Prop) (hl : l.length ≤ 4611686018427387904)
    (hri : Rises l (fun y => decide (s.1 < y.2))) (hk0 : FirstOf l.length (fun i => decide (s.1 < (atS l i).2)) k0)
    (hY : ∀ m pre x W, J pre W → (pre ++ [x]) <+: meetsL s (l.drop k0) → YieldAt Fence.wide m Try.prog lp (spEnc x) W fun e W' =>
      (e = .returned (.bool true) ∧ J (pre ++ [x]) W' ∧ KeepB (seqK br bs b v) W W') ∨ (e = .returned (.bool false) ∧ Jx (pre ++ [x]) W'))
    (hJ : ∀ pre A B, J pre A → Below A.heap.size A B → J pre B)
    (W : World) (hS : SeqOf W br bs b v l s) (h0 : J [] W) :
    CallsIn Fence.wide n Try.prog 90 #[.func (.yield lp) #[] #[], .pointer (some ⟨br, 0, none⟩), .pointer (some ⟨bs, 0, none⟩)] W fun e W' => (∃ v, e = .returned v) ∧
      ((∃ ys, ys = meetsL s (l.drop k0) ∧ J ys W') ∨ (∃ pre, pre <+: meetsL s (l.drop k0) ∧ Jx pre W')) := by
  have hcr := hS.cr; have hcs := hS.cs
  have c1 : W.cell? ⟨br, 0, none⟩ = some (.pointer (some ⟨b, 0, none⟩)) := by rw [cell_of_at hcr]; rfl
  have hK0 := Lib.hid hk0; clear hk0
  have HY := Lib.hid hY; clear hY
  have HJ := Lib.hid hJ; clear hJ
  have H0 := Lib.hid h0; clear h0
  have hfst := Lib.hid (first_any 91 (fun args w => by kernel_rfl) (.pointer (some ⟨bs, 0, none⟩)) (fun y => decide (s.1 < y.2)) W hS.runs hl (fun x W' hb => by
      have e0 : W'.cell? ⟨bs, 0, none⟩ = some (.int .i64 s.1) := by rw [cell_of_at (Below.at' hb hcs)]; rfl
      have e1 : W'.cell? ⟨bs, 1, none⟩ = some (.int .i64 s.2) := by rw [cell_of_at (Below.at' hb hcs)]; rfl
      exact meets1_any x.1 x.2 s.1 s.2 bs W' e0 e1) hri)
  have HS := Lib.hid hS; clear hS hcr hcs
  have hl' := Lib.hid hl
  refine callsIn_of_wp Try.func90 rfl trivial ?_ rfl
  simp only [Try.ntmps90, List.size_toArray, List.length_cons, List.length_nil, Nat.reduceAdd, Nat.reduceSub, Array.replicate_succ, Array.replicate_zero, List.push_toArray, List.append_toArray, List.nil_append, List.cons_append]
  gi_wp2_with fail
  refine ⟨trivial, (fun h => by cases h), ?_⟩; refine callsIn_wide.2 ((hfst.out).mono ?_)
  rintro e w1 ⟨k, hk, rfl, hb1⟩
  obtain rfl := firstOf_unique hK0.out hk
  have hJ1 := HJ.out [] W w1 H0.out hb1
  have HS1 := Lib.hid (HS.out.below hb1)
  have HJ1 := Lib.hid hJ1
  clear hJ1 hk hb1 hfst H0 HS c1
  gi_wp2_with fail
  gi_loopw [4] (fun i wr => ∃ (pre : List Sp) (m : Nat), i = .int .i64 m ∧ m ≤ l.length ∧ Hid (SeqOf wr br bs b v l s) ∧ Hid (J pre wr) ∧ Hid (meetsL s (l.drop k0) = pre ++ meetsL s (l.drop m)))
    (fun i _ => l.length - (intOf i).toNat)
  case atStart => exact ⟨[], k0, rfl, hK0.out.1, HS1, HJ1, rfl⟩
  case round =>
    obtain ⟨pre, m, rfl, hm, HSr, HJr, HE⟩ := hrel
    obtain ⟨A, c, rfl, hlc, hcm⟩ := HSr.out.runs.row.form
    have d1 : wr.cell? ⟨br, 0, none⟩ = some (.pointer (some ⟨b, 0, none⟩)) := by rw [cell_of_at HSr.out.cr]; rfl
    have d2 : wr.cell? ⟨b, 0, none⟩ = some (.slice A l.length c) := HSr.out.runs.cell
    have d3 : wr.cell? ⟨bs, 0, none⟩ = some (.int .i64 s.1) := by rw [cell_of_at HSr.out.cs]; rfl
    have d4 : wr.cell? ⟨bs, 1, none⟩ = some (.int .i64 s.2) := by rw [cell_of_at HSr.out.cs]; rfl
    by_cases hlt : m < l.length
    · have hrd := HSr.out.runs.row.reads
      rcases hrd with hnil | ⟨g, o, rfl, hc⟩
      · rw [hnil] at hlt; simp at hlt
      · have d5 := (hc m hlt).1
        have d6 := (hc m hlt).2
        rw [← atS_get l m hlt] at d5 d6; rw [← Nat.add_assoc] at d6
        clear hc
        by_cases hin : (atS l m).1 < s.2
        · have hlt' : (m : Int) < l.length := by omega
          gi_wp2_with fail
          gi_quiet (fail)
          gi_wp2_with fail
          have hdr := meetsL_drop s l m hlt
          rw [if_pos hin] at hdr
          have HD := Lib.hid hdr; clear hdr
          have hlen : (pre ++ [meetOf s (atS l m)]) <+: meetsL s (l.drop k0) := ⟨meetsL s (l.drop (m + 1)), by rw [HE.out, HD.out]; simp⟩
          gi_region_with (first
            | (refine ⟨trivial, (fun h => by cases h), ?_⟩; (with_reducible refine callsIn_wide.2 ((meet_any _ _ _ _ _).mono ?_)); rintro e w2 ⟨rfl, hb2⟩
               have hB2 : Below wr.heap.size wr w2 := Below.then_ (by (repeat (with_reducible first | exact Below.refl _ _ | assumption | (refine Below.setCell ?_ (by first | (simp; done) | (simp; omega) | omega) _) | (refine Below.alloc ?_ (by first | (simp; done) | (simp; omega) | omega) _) | refine Below.drew ?_ | refine Below.drewN_ ?_ _ | (refine Below.then_ ?_ (by with_reducible assumption))))) hb2
               obtain ⟨fn, tmps, assign, body, hy, hR⟩ := HY.out (n - 1) pre (meetOf s (atS l m)) w2 (HJ.out _ _ _ HJr.out hB2) hlen
               have hR2 := hR.mono (R' := YieldPost (pre ++ [meetOf s (atS l m)]) J Jx (KeepB (seqK br bs b (.slice (some ⟨g, o, none⟩) l.length c))) w2) (fun e w' h => by
                 rcases h with ⟨h1, h2⟩ | ⟨h1, h2⟩
                 · exact ⟨true, h1, .inl ⟨rfl, h2⟩⟩
                 · exact ⟨false, h1, .inr ⟨rfl, h2⟩⟩)
               have HB2 := Lib.hid hB2; clear hB2 hb2 hR
               dsimp only [spEnc, meetOf] at hy)
            | ((try refine ⟨(fun h => by cases h), ?_⟩); refine hR2.mono ?_; clear hR2; rintro e w3 ⟨r, rfl, hw3⟩))
          all_goals
            cases r
            · have hx : Jx (pre ++ [meetOf s (atS l m)]) w3 := by
                rcases hw3.out with ⟨h, _⟩ | ⟨_, h⟩
                · cases h
                · exact h
              have HX := Lib.hid hx
              clear hx hw3
              gi_wp2
              refine bodyPost_ret (results_none rfl _ _ _) rfl ?_
              exact ⟨⟨_, rfl⟩, .inr ⟨_, ⟨meetsL s (l.drop (m + 1)), by rw [HE.out, HD.out]; simp⟩, HX.out⟩⟩
            · obtain ⟨hj3, hk3⟩ : J (pre ++ [meetOf s (atS l m)]) w3 ∧ KeepB (seqK br bs b (.slice (some ⟨g, o, none⟩) l.length c)) w2 w3 := by
                rcases hw3.out with ⟨_, h⟩ | ⟨h, _⟩
                · exact h
                · cases h
              have HR := Lib.hid (And.intro (show SeqOf w3 br bs b (.slice (some ⟨g, o, none⟩) l.length c) l s from (HSr.out.below HB2.out).keep hk3) hj3)
              clear hj3 hk3 hw3
              gi_wp2
              go_roundw
              case rel => exact ⟨pre ++ [meetOf s (atS l m)], m + 1, by go_num, by omega, HR.out.1, HR.out.2, show _ = _ by rw [HE.out, HD.out]; simp⟩
              case measure => simp [intOf]; omega
        · have hin' : decide ((atS l m).1 < s.2) = false := decide_eq_false hin
          have hlt' : (m : Int) < l.length := by omega
          have hdr := meetsL_drop s l m hlt
          rw [if_neg hin] at hdr
          have HD := Lib.hid hdr; clear hdr hin
          gi_wp2_with fail
          gi_quiet (fail)
          gi_wp2_with fail
          have HJq := Lib.hid (HJ.out _ _ _ HJr.out (Below.drewN_ (Below.refl wr.heap.size wr) nq))
          go_end0
          exact ⟨⟨_, rfl⟩, .inl ⟨pre, by rw [HE.out, HD.out]; simp, HJq.out⟩⟩
    · have hlt' : decide ((m : Int) < l.length) = false := decide_eq_false (by omega)
      have hD : meetsL s (l.drop m) = [] := by rw [List.drop_of_length_le (by omega)]; rfl
      have HD := Lib.hid hD; clear hD
      gi_wp2_with fail
      gi_quiet (fail)
      gi_wp2_with fail
      have HJq := Lib.hid (HJ.out _ _ _ HJr.out (Below.drewN_ (Below.refl wr.heap.size wr) nq))
      go_end0
      exact ⟨⟨_, rfl⟩, .inl ⟨pre, by rw [HE.out, HD.out]; simp, HJq.out⟩⟩

theorem anyDepth_round {m m' : Nat} {P : Program} {l : Nat} {f : FuncId} {tmps : Array Value} {assign body : Code} {w : World} {R : Ending → World → Prop}
    (h : RoundIn Fence.wide m P l f tmps assign body w R) : RoundIn Fence.wide m' P l f tmps assign body w R := ⟨h.1, fun c cs _ => h.2 c cs (room_wide _)⟩
theorem anyDepth {m : Nat} (m' : Nat) {P : Program} {l : Nat} {args : Array Value} {W : World} {R : Ending → World → Prop} (h : YieldAt Fence.wide m P l args W R) : YieldAt Fence.wide m' P l args W R := by
  obtain ⟨fn, tmps, assign, body, hy, hR⟩ := h
  exact ⟨fn, tmps, assign, body, hy, anyDepth_round hR⟩
theorem grown_none {w w1 : World} (h : Below w.heap.size w w1) : w.grownBy w1 none := ⟨h.os, h.tape, h.output, h.size, fun i hi _ => h.block i hi⟩

theorem meets1_stops (n br bs b k0 : Nat) (v : Value) (l : List Sp) (s : Sp) (hl : l.length ≤ 4611686018427387904)
    (hri : Rises l (fun y => decide (s.1 < y.2))) (hk0 : FirstOf l.length (fun i => decide (s.1 < (atS l i).2)) k0) (w : World) (hS : SeqOf w br bs b v l s) :
    SeqStopsK Fence.wide n Try.prog 90 #[.pointer (some ⟨br, 0, none⟩), .pointer (some ⟨bs, 0, none⟩)] spEnc (KeepB (seqK br bs b v)) (fun ys => ys = meetsL s (l.drop k0)) (fun pre => pre <+: meetsL s (l.drop k0)) (meetsL s (l.drop k0)).length w :=
  fun lp J Jx W hW hJ hJx hY h0 =>
    meets1_in n lp br bs b k0 v l s J Jx hl hri hk0 (fun m pre x W1 h1 h2 => anyDepth m (hY pre x W1 h1 (by have := h2.length_le; rw [List.length_append, List.length_singleton] at this; omega))) (fun pre A B hA hb => hJ pre A B none hA (grown_none hb) (fun r e => by cases e)) W (hS.below hW) h0

set_option maxRecDepth 100000 in
theorem meetsNil_stops (n br bs : Nat) (w : World) (hr : w.heap[br]? = some (.cells #[.pointer none] 26 (0, 0))) :
    SeqStopsK Fence.wide n Try.prog 90 #[.pointer (some ⟨br, 0, none⟩), .pointer (some ⟨bs, 0, none⟩)] spEnc (KeepB (fun k => k = br)) (fun ys => ys = []) (fun pre => pre <+: []) 0 w :=
  fun lp J Jx W hW hJ hJx hY h0 => by
    have hcr := Below.at' hW hr
    have c1 : W.cell? ⟨br, 0, none⟩ = some (.pointer none) := by rw [cell_of_at hcr]; rfl
    have HJ : Hid (∀ A B, J [] A → Below A.heap.size A B → J [] B) := fun A B hA hb => hJ [] A B none hA (grown_none hb) (fun r e => by cases e)
    have H0 := Lib.hid h0; clear h0 hJ hJx hY
    have HR := Lib.hid hcr; clear hr hcr hW
    show CallsIn Fence.wide n Try.prog 90 #[.func (.yield lp) #[] #[], .pointer (some ⟨br, 0, none⟩), .pointer (some ⟨bs, 0, none⟩)] W _
    refine callsIn_of_wp Try.func90 rfl trivial ?_ rfl
    simp only [Try.ntmps90, List.size_toArray, List.length_cons, List.length_nil, Nat.reduceAdd, Nat.reduceSub, Array.replicate_succ, Array.replicate_zero, List.push_toArray, List.append_toArray, List.nil_append, List.cons_append]
    gi_wp2_with fail
    refine ⟨trivial, (fun h => by cases h), ?_⟩; refine callsIn_wide.2 ((first_nil 91 (.pointer (some ⟨bs, 0, none⟩)) W).mono ?_)
    rintro e w1 ⟨rfl, hb1⟩
    have d1 : w1.cell? ⟨br, 0, none⟩ = some (.pointer none) := Below.cell' hb1 c1
    have HB := Lib.hid hb1; clear hb1
    gi_wp2_with fail
    gi_loopw [4] (fun i wr => i = .int .i64 0 ∧ wr = w1) (fun i _ => 0)
    case atStart => exact ⟨rfl, rfl⟩
    case round =>
      obtain ⟨rfl, rfl⟩ := hrel
      gi_wp2_with fail
      gi_quiet (fail)
      gi_wp2_with fail
      have HJq := Lib.hid (HJ.out _ _ (HJ.out _ _ H0.out HB.out) (Below.drewN_ (Below.refl wr.heap.size wr) nq))
      go_end0
      exact ⟨⟨_, rfl⟩, .inl ⟨[], rfl, HJq.out⟩⟩

theorem meets_any (p : Option Addr) (s : Sp) (w : World) :
    Calls Try.prog 59 #[.pointer p, .agg #[.int .i64 s.1, .int .i64 s.2]] w fun e w' => e = .returned (.func (.func 90) #[] #[.pointer (some ⟨w.heap.size, 0, none⟩), .pointer (some ⟨w.heap.size + 1, 0, none⟩)]) ∧
      w' = (w.alloc (.cells #[.pointer p] 26)).alloc (.cells #[.int .i64 s.1, .int .i64 s.2] 24) := by
  go_enter Try.func59, Try.ntmps59
  go_wp2
  go_ret
  exact ⟨rfl, rfl⟩
end Go.Proofs.Ytcifbcdjkofomaa
