/-
  The gaps of a set, one by one. Conditions: as at the runs that meet a span.
-/
import Derived.Test.YtcifbcdjkofomaaLaw
import Derived.Test.YtcifbcdjkofomaaAll
namespace Go.Proofs.Ytcifbcdjkofomaa
open Go.RowKit Go.Shelf
set_option linter.unusedVariables false
set_option linter.unusedSimpArgs false

attribute [local go_sem] Oper.semAt_some run_min run_max run_field24_0 run_field24_1

theorem KeepX.keepB {K K' : Nat → Prop} {B : Nat} {O : Nat → Prop} {W W' : World} (h : KeepX K B O W W') (hK : ∀ k, K' k → K k) (hx : ∀ k, K' k → k < W.heap.size) : KeepB K' W W' :=
  ⟨h.size, fun b hb => by
    have := hx b hb
    have : W.heap[b]? = some W.heap[b] := Array.getElem?_eq_getElem this
    rw [this]; exact h.same b _ (.inl (hK b hb)) this⟩

theorem meets_gives (n br bs b k0 : Nat) (v : Value) (l : List Sp) (s : Sp) (hl : l.length ≤ 4611686018427387904) (K : Nat → Prop) (hK : ∀ k, seqK br bs b v k → K k)
    (hri : Rises l (fun y => decide (s.1 < y.2))) (hk0 : FirstOf l.length (fun i => decide (s.1 < (atS l i).2)) k0) (w : World) (hS : SeqOf w br bs b v l s) :
    Gives n 90 #[.pointer (some ⟨br, 0, none⟩), .pointer (some ⟨bs, 0, none⟩)] K (meetsL s (l.drop k0)) w := by
  intro lp J Jx O0 W hW hCJ hCJx hO hY h0
  have hSW := hS.below hW
  have key := meets1_in n lp br bs b k0 v l s (fun pre A => (∃ O, J pre O A) ∧ W.heap.size ≤ A.heap.size) (fun pre A => ∃ O, Jx pre O A) hl hri hk0
    (fun m pre x W1 h1 h2 => by
      obtain ⟨⟨O, hj⟩, hsz⟩ := h1
      refine (hY m pre O x W1 hj hsz h2).mono ?_
      rintro e W' ⟨O', _, hk, h | h⟩
      · exact .inl ⟨h.1, ⟨⟨O', h.2⟩, Nat.le_trans hsz hk.size⟩, hk.keepB hK (fun k h => Nat.lt_of_lt_of_le (hSW.lt k h) hsz)⟩
      · exact .inr ⟨h.1, O', h.2⟩)
    (fun pre A B ⟨⟨O, hA⟩, hz⟩ hb => ⟨⟨O, hCJ.below hA hb⟩, Nat.le_trans hz hb.size⟩) W hSW ⟨⟨O0, h0⟩, Nat.le_refl _⟩
  refine key.mono ?_
  rintro e W' ⟨hv, ⟨ys, rfl, ⟨O, h⟩, _⟩ | ⟨pre, hp, O, h⟩⟩
  · exact ⟨hv, .inl ⟨O, h⟩⟩
  · exact ⟨hv, .inr ⟨pre, O, hp, h⟩⟩
theorem all_gives (n br b : Nat) (v : Value) (l : List Sp) (hl : l.length ≤ 4611686018427387904) (K : Nat → Prop) (hK : ∀ k, allK br b v k → K k) (w : World) (hS : AllOf w br b v l) :
    Gives n 61 #[.pointer (some ⟨br, 0, none⟩)] K l w := by
  intro lp J Jx O0 W hW hCJ hCJx hO hY h0
  have hSW := hS.below hW
  have key := all1_in n lp br b v l (fun pre A => (∃ O, J pre O A) ∧ W.heap.size ≤ A.heap.size) (fun pre A => ∃ O, Jx pre O A) hl
    (fun m pre x W1 h1 h2 => by
      obtain ⟨⟨O, hj⟩, hsz⟩ := h1
      refine (hY m pre O x W1 hj hsz h2).mono ?_
      rintro e W' ⟨O', _, hk, h | h⟩
      · exact .inl ⟨h.1, ⟨⟨O', h.2⟩, Nat.le_trans hsz hk.size⟩, hk.keepB hK (fun k h => Nat.lt_of_lt_of_le (hSW.lt k h) hsz)⟩
      · exact .inr ⟨h.1, O', h.2⟩)
    (fun pre A B ⟨⟨O, hA⟩, hz⟩ hb => ⟨⟨O, hCJ.below hA hb⟩, Nat.le_trans hz hb.size⟩) W hSW ⟨⟨O0, h0⟩, Nat.le_refl _⟩
  refine key.mono ?_
  rintro e W' ⟨hv, ⟨ys, rfl, ⟨O, h⟩, _⟩ | ⟨pre, hp, O, h⟩⟩
  · exact ⟨hv, .inl ⟨O, h⟩⟩
  · exact ⟨hv, .inr ⟨pre, O, hp, h⟩⟩
theorem gives_of_stopsNil {n g : Nat} {lb : Array Value} {br : Nat} {w : World} (K : Nat → Prop)
    (h : SeqStopsK Fence.wide n Try.prog g lb spEnc (KeepB (fun k => k = br)) (fun ys => ys = []) (fun pre => pre <+: []) 0 w) : Gives n g lb K [] w := by
  intro lp J Jx O0 W hW hCJ hCJx hO hY h0
  have key := h lp (fun pre A => ∃ O, J pre O A ∧ (∀ k, O k → O0 k)) (fun pre A => False) W hW
    (fun pre A B row ⟨O, hA, hs⟩ hg hr => ⟨O, by
      exact hCJ pre O A B (fun k => some k = row) hA (Chg.of_grown hg) (fun k hk e => ⟨(hr k e.symm).1, fun ho => by have := hO [] O0 W h0 k (hs k ho); have := (hr k e.symm).1; omega⟩), hs⟩)
    (fun pre A B row hA hg hr => hA.elim)
    (fun pre x W1 _ hlt => absurd hlt (by simp)) ⟨O0, h0, fun _ h => h⟩
  refine key.mono ?_
  rintro e W' ⟨hv, ⟨ys, rfl, O, h, _⟩ | ⟨pre, hp, h⟩⟩
  · exact ⟨hv, .inl ⟨O, h⟩⟩
  · exact h.elim

/-- The gaps ahead of a list's end, and the place that has been come to. -/
def gapsTo (a : Int) : List Sp → List Sp × Int
  | [] => ([], a)
  | x :: l => let r := gapsTo x.2 l; (if a < x.1 then (a, x.1) :: r.1 else r.1, r.2)
def gapsOf (s : Sp) (ms : List Sp) : List Sp := if spLen s.1 s.2 = 0 then [] else (gapsTo s.1 ms).1 ++ (if (gapsTo s.1 ms).2 < s.2 then [((gapsTo s.1 ms).2, s.2)] else [])
theorem gapsTo_prefix {p l : List Sp} (h : p <+: l) : ∀ a, (gapsTo a p).1 <+: (gapsTo a l).1 := by
  obtain ⟨r, rfl⟩ := h
  induction p with
  | nil => intro a; simp [gapsTo]
  | cons y p ih => intro a; rw [List.cons_append, gapsTo, gapsTo]; by_cases h : a < y.1 <;> simp [h, ih]
theorem gapsTo_snoc (x : Sp) (l : List Sp) : ∀ a, gapsTo a (l ++ [x]) = ((gapsTo a l).1 ++ (if (gapsTo a l).2 < x.1 then [((gapsTo a l).2, x.1)] else []), x.2) := by
  induction l with
  | nil => intro a; by_cases h : a < x.1 <;> simp [gapsTo, h]
  | cons y l ih => intro a; rw [List.cons_append, gapsTo, gapsTo, ih]; by_cases h : a < y.1 <;> simp [h]
end Go.Proofs.Ytcifbcdjkofomaa
