/-
  No cell of these rows narrows 'for every input' (looked for: loops, veiled, ifaces, maps, wideKeys, modest, calm, conditions, laid).
  DERIVED. THE GIVEN ROWS OF THIS SEAT. 10 by the template 'for every input the law returns true; each argument reads behind the call as it read before'; 0 by the template 'total and deterministic' (their statements: YtcifbcdjkofomaaTotals.lean).
  GIVEN WITH THE SEED: the statements are not yours to turn. If you find one false, say at which input.
  Laid BY PROGRAM, IN A SANDBOX (cutbox-rows.mjs): the forced cells as the released guide's own fill.sh prints them over the translation 55f2342b83f1677e… (all of the seat's roots in one cut). By AI agents, Wed Nov 11 2026. No macro, syntax, notation, axiom, sorry.
-/
import Derived.Test.YtcifbcdjkofomaaChecked
import GoSem.Claim
import GoSem.ClaimJoined
import GoSem.ClaimMapViews
import Derived.JoinedTies
import Derived.KernelRfl
namespace Go.Proofs.Ytcifbcdjkofomaa
/- THE CELL 'sum', in the pinned program and in every row, IS THE sha256 OF THE DUMP (.gsa) THAT YtcifbcdjkofomaaProg.lean LOADS. Nothing in Lean hashes anything: it is a label: what it is worth is what the hold of that sum in a sandbox is worth. -/
noncomputable def Try.pinned : Pinned := { name := "ytcifbcdjkofomaa", sum := "55f2342b83f1677e934e54cf5b0acefe26bff3bca68122d03ab40a682ba36270", checked := Try.checked }
namespace Rows
def none {H : Type} : Left H := { results := [], args := [] }

/-- 'undertowlaw07.RunsWhole': WHATEVER THE INPUT: true; the input reads as it did. -/
def runsWholeSpec : ChangeSpec := { name := "runsWhole", fn := fun _ => fun
  | [d1, d2] => { results := [.lit (.bool true)], args := [d1, d2] }
  | _ => none }
def runsWholeRow : OpenClaim := { program := "ytcifbcdjkofomaa", sum := "55f2342b83f1677e934e54cf5b0acefe26bff3bca68122d03ab40a682ba36270", func := "undertow/undertowlaw07.RunsWhole", spec := "runsWhole", inPlace := ["slices.overlaps[undertow/api.Span]"], unfollowed := true, recurses := true, apart := false }
def RunsWholeSaid : Prop := runsWholeRow.holds Try.pinned (OpenSpec.ofChange runsWholeSpec)

/-- ITS FALSE NEIGHBOUR: 'it returns false'. Refute it at one input. -/
def runsWholeWrong : ChangeSpec := { name := "runsWhole", fn := fun _ => fun
  | [d1, d2] => { results := [.lit (.bool false)], args := [d1, d2] }
  | _ => none }
def RunsWholeWrongFalsely : Prop := runsWholeRow.holds Try.pinned (OpenSpec.ofChange runsWholeWrong)

/-- 'undertowlaw07.RunsKeep': WHATEVER THE INPUT: true; the input reads as it did. -/
def runsKeepSpec : ChangeSpec := { name := "runsKeep", fn := fun _ => fun
  | [d1, d2, d3] => { results := [.lit (.bool true)], args := [d1, d2, d3] }
  | _ => none }
def runsKeepRow : OpenClaim := { program := "ytcifbcdjkofomaa", sum := "55f2342b83f1677e934e54cf5b0acefe26bff3bca68122d03ab40a682ba36270", func := "undertow/undertowlaw07.RunsKeep", spec := "runsKeep", inPlace := ["slices.overlaps[undertow/api.Span]"], unfollowed := true, recurses := true, apart := false }
def RunsKeepSaid : Prop := runsKeepRow.holds Try.pinned (OpenSpec.ofChange runsKeepSpec)

/-- ITS FALSE NEIGHBOUR: 'it returns false'. Refute it at one input. -/
def runsKeepWrong : ChangeSpec := { name := "runsKeep", fn := fun _ => fun
  | [d1, d2, d3] => { results := [.lit (.bool false)], args := [d1, d2, d3] }
  | _ => none }
def RunsKeepWrongFalsely : Prop := runsKeepRow.holds Try.pinned (OpenSpec.ofChange runsKeepWrong)

/-- 'undertowlaw07.RunsFull': WHATEVER THE INPUT: true; the input reads as it did. -/
def runsFullSpec : ChangeSpec := { name := "runsFull", fn := fun _ => fun
  | [d] => { results := [.lit (.bool true)], args := [d] }
  | _ => none }
def runsFullRow : OpenClaim := { program := "ytcifbcdjkofomaa", sum := "55f2342b83f1677e934e54cf5b0acefe26bff3bca68122d03ab40a682ba36270", func := "undertow/undertowlaw07.RunsFull", spec := "runsFull", inPlace := ["slices.overlaps[undertow/api.Span]"], unfollowed := true, recurses := true, apart := false }
def RunsFullSaid : Prop := runsFullRow.holds Try.pinned (OpenSpec.ofChange runsFullSpec)

/-- ITS FALSE NEIGHBOUR: 'it returns false'. Refute it at one input. -/
def runsFullWrong : ChangeSpec := { name := "runsFull", fn := fun _ => fun
  | [d] => { results := [.lit (.bool false)], args := [d] }
  | _ => none }
def RunsFullWrongFalsely : Prop := runsFullRow.holds Try.pinned (OpenSpec.ofChange runsFullWrong)

/-- 'undertowlaw07.RunsPlay': WHATEVER THE INPUT: true; the input reads as it did. -/
def runsPlaySpec : ChangeSpec := { name := "runsPlay", fn := fun _ => fun
  | [d1, d2, d3] => { results := [.lit (.bool true)], args := [d1, d2, d3] }
  | _ => none }
def runsPlayRow : OpenClaim := { program := "ytcifbcdjkofomaa", sum := "55f2342b83f1677e934e54cf5b0acefe26bff3bca68122d03ab40a682ba36270", func := "undertow/undertowlaw07.RunsPlay", spec := "runsPlay", inPlace := ["slices.overlaps[undertow/api.Span]"], unfollowed := true, recurses := true, apart := false }
def RunsPlaySaid : Prop := runsPlayRow.holds Try.pinned (OpenSpec.ofChange runsPlaySpec)

/-- ITS FALSE NEIGHBOUR: 'it returns false'. Refute it at one input. -/
def runsPlayWrong : ChangeSpec := { name := "runsPlay", fn := fun _ => fun
  | [d1, d2, d3] => { results := [.lit (.bool false)], args := [d1, d2, d3] }
  | _ => none }
def RunsPlayWrongFalsely : Prop := runsPlayRow.holds Try.pinned (OpenSpec.ofChange runsPlayWrong)

/-- 'undertowlaw07.RunsOrder': WHATEVER THE INPUT: true; the input reads as it did. -/
def runsOrderSpec : ChangeSpec := { name := "runsOrder", fn := fun _ => fun
  | [d1, d2] => { results := [.lit (.bool true)], args := [d1, d2] }
  | _ => none }
def runsOrderRow : OpenClaim := { program := "ytcifbcdjkofomaa", sum := "55f2342b83f1677e934e54cf5b0acefe26bff3bca68122d03ab40a682ba36270", func := "undertow/undertowlaw07.RunsOrder", spec := "runsOrder", inPlace := ["slices.overlaps[undertow/api.Span]"], unfollowed := true, recurses := true, apart := false }
def RunsOrderSaid : Prop := runsOrderRow.holds Try.pinned (OpenSpec.ofChange runsOrderSpec)

/-- ITS FALSE NEIGHBOUR: 'it returns false'. Refute it at one input. -/
def runsOrderWrong : ChangeSpec := { name := "runsOrder", fn := fun _ => fun
  | [d1, d2] => { results := [.lit (.bool false)], args := [d1, d2] }
  | _ => none }
def RunsOrderWrongFalsely : Prop := runsOrderRow.holds Try.pinned (OpenSpec.ofChange runsOrderWrong)

/-- 'undertowlaw07.RunsNone': WHATEVER THE INPUT: true; the input reads as it did. -/
def runsNoneSpec : ChangeSpec := { name := "runsNone", fn := fun _ => fun
  | [d1, d2] => { results := [.lit (.bool true)], args := [d1, d2] }
  | _ => none }
def runsNoneRow : OpenClaim := { program := "ytcifbcdjkofomaa", sum := "55f2342b83f1677e934e54cf5b0acefe26bff3bca68122d03ab40a682ba36270", func := "undertow/undertowlaw07.RunsNone", spec := "runsNone", inPlace := ["slices.overlaps[undertow/api.Span]"], unfollowed := true, recurses := true, apart := false }
def RunsNoneSaid : Prop := runsNoneRow.holds Try.pinned (OpenSpec.ofChange runsNoneSpec)

/-- ITS FALSE NEIGHBOUR: 'it returns false'. Refute it at one input. -/
def runsNoneWrong : ChangeSpec := { name := "runsNone", fn := fun _ => fun
  | [d1, d2] => { results := [.lit (.bool false)], args := [d1, d2] }
  | _ => none }
def RunsNoneWrongFalsely : Prop := runsNoneRow.holds Try.pinned (OpenSpec.ofChange runsNoneWrong)

/-- 'undertowlaw23.HeardKeeps': WHATEVER THE INPUT: true; the input reads as it did. -/
def heardKeepsSpec : ChangeSpec := { name := "heardKeeps", fn := fun _ => fun
  | [d1, d2, d3, d4] => { results := [.lit (.bool true)], args := [d1, d2, d3, d4] }
  | _ => none }
def heardKeepsRow : OpenClaim := { program := "ytcifbcdjkofomaa", sum := "55f2342b83f1677e934e54cf5b0acefe26bff3bca68122d03ab40a682ba36270", func := "undertow/undertowlaw23.HeardKeeps", spec := "heardKeeps", inPlace := ["slices.overlaps[undertow/api.Span]"], unfollowed := true, recurses := true, apart := false }
def HeardKeepsSaid : Prop := heardKeepsRow.holds Try.pinned (OpenSpec.ofChange heardKeepsSpec)

/-- ITS FALSE NEIGHBOUR: 'it returns false'. Refute it at one input. -/
def heardKeepsWrong : ChangeSpec := { name := "heardKeeps", fn := fun _ => fun
  | [d1, d2, d3, d4] => { results := [.lit (.bool false)], args := [d1, d2, d3, d4] }
  | _ => none }
def HeardKeepsWrongFalsely : Prop := heardKeepsRow.holds Try.pinned (OpenSpec.ofChange heardKeepsWrong)

/-- 'undertowlaw23.HeardOrder': WHATEVER THE INPUT: true; the input reads as it did. -/
def heardOrderSpec : ChangeSpec := { name := "heardOrder", fn := fun _ => fun
  | [d1, d2, d3] => { results := [.lit (.bool true)], args := [d1, d2, d3] }
  | _ => none }
def heardOrderRow : OpenClaim := { program := "ytcifbcdjkofomaa", sum := "55f2342b83f1677e934e54cf5b0acefe26bff3bca68122d03ab40a682ba36270", func := "undertow/undertowlaw23.HeardOrder", spec := "heardOrder", inPlace := ["slices.overlaps[undertow/api.Span]"], unfollowed := true, recurses := true, apart := false }
def HeardOrderSaid : Prop := heardOrderRow.holds Try.pinned (OpenSpec.ofChange heardOrderSpec)

/-- ITS FALSE NEIGHBOUR: 'it returns false'. Refute it at one input. -/
def heardOrderWrong : ChangeSpec := { name := "heardOrder", fn := fun _ => fun
  | [d1, d2, d3] => { results := [.lit (.bool false)], args := [d1, d2, d3] }
  | _ => none }
def HeardOrderWrongFalsely : Prop := heardOrderRow.holds Try.pinned (OpenSpec.ofChange heardOrderWrong)

/-- 'undertowlaw23.HeardPlays': WHATEVER THE INPUT: true; the input reads as it did. -/
def heardPlaysSpec : ChangeSpec := { name := "heardPlays", fn := fun _ => fun
  | [d1, d2, d3, d4] => { results := [.lit (.bool true)], args := [d1, d2, d3, d4] }
  | _ => none }
def heardPlaysRow : OpenClaim := { program := "ytcifbcdjkofomaa", sum := "55f2342b83f1677e934e54cf5b0acefe26bff3bca68122d03ab40a682ba36270", func := "undertow/undertowlaw23.HeardPlays", spec := "heardPlays", inPlace := ["slices.overlaps[undertow/api.Span]"], unfollowed := true, recurses := true, apart := false }
def HeardPlaysSaid : Prop := heardPlaysRow.holds Try.pinned (OpenSpec.ofChange heardPlaysSpec)

/-- ITS FALSE NEIGHBOUR: 'it returns false'. Refute it at one input. -/
def heardPlaysWrong : ChangeSpec := { name := "heardPlays", fn := fun _ => fun
  | [d1, d2, d3, d4] => { results := [.lit (.bool false)], args := [d1, d2, d3, d4] }
  | _ => none }
def HeardPlaysWrongFalsely : Prop := heardPlaysRow.holds Try.pinned (OpenSpec.ofChange heardPlaysWrong)

/-- 'undertowlaw23.HeardNone': WHATEVER THE INPUT: true; the input reads as it did. -/
def heardNoneSpec : ChangeSpec := { name := "heardNone", fn := fun _ => fun
  | [d] => { results := [.lit (.bool true)], args := [d] }
  | _ => none }
def heardNoneRow : OpenClaim := { program := "ytcifbcdjkofomaa", sum := "55f2342b83f1677e934e54cf5b0acefe26bff3bca68122d03ab40a682ba36270", func := "undertow/undertowlaw23.HeardNone", spec := "heardNone", inPlace := ["slices.overlaps[undertow/api.Span]"], unfollowed := true, recurses := true, apart := false }
def HeardNoneSaid : Prop := heardNoneRow.holds Try.pinned (OpenSpec.ofChange heardNoneSpec)

/-- ITS FALSE NEIGHBOUR: 'it returns false'. Refute it at one input. -/
def heardNoneWrong : ChangeSpec := { name := "heardNone", fn := fun _ => fun
  | [d] => { results := [.lit (.bool false)], args := [d] }
  | _ => none }
def HeardNoneWrongFalsely : Prop := heardNoneRow.holds Try.pinned (OpenSpec.ofChange heardNoneWrong)

/- THE SECOND FORM. 'bulk': how many values and letters a reading holds, each counted each time it is reached (what is shared counts as often as it is met; a slice's spare places count too). A statement '..UptoSaid' is the law's where the arguments, and the package variables that the reading takes, are together of bulk at most 1048576: NARROWER than '..Said'. Prove '..Said' where nothing that the law and all that it calls make is longer than what came in: it says more and counts as full. Else prove '..UptoSaid'. A law counts once. -/
mutual
def uptoBulk {H : Type} : DataW H → Nat
  | .lit (.string bytes) => bytes.length + 1
  | .lit _ => 1
  | .nil => 1
  | .ptr d => uptoBulk d + 1
  | .slice elems spare => uptoBulkAll elems + uptoBulkAll spare + 1
  | .agg parts => uptoBulkAll parts + 1
  | .iface _ d => uptoBulk d + 1
  | .map entries => uptoBulkEntries entries + 1
  | .held _ => 1
def uptoBulkAll {H : Type} : List (DataW H) → Nat
  | [] => 0
  | d :: r => uptoBulk d + uptoBulkAll r
def uptoBulkEntries {H : Type} : List (Lit × DataW H) → Nat
  | [] => 0
  | x :: r => uptoBulkEntry x + uptoBulkEntries r
def uptoBulkEntry {H : Type} : Lit × DataW H → Nat
  | (.string bytes, d) => bytes.length + uptoBulk d + 1
  | (_, d) => uptoBulk d + 1
 end
def uptoSmall : (H : Type) → List (DataW H) → Bool := fun _ ds => decide (uptoBulkAll ds ≤ 1048576)
def OpenSpec.upto (s : _root_.Go.ChangeSpec) : _root_.Go.OpenSpec := { _root_.Go.OpenSpec.ofChange s with cond := some uptoSmall }

/-- 'undertowlaw07.RunsWhole', WHERE WHAT IT READS IS OF BULK AT MOST 1048576: true; the input reads as it did. -/
def runsWholeUptoRow : OpenClaim := { program := "ytcifbcdjkofomaa", sum := "55f2342b83f1677e934e54cf5b0acefe26bff3bca68122d03ab40a682ba36270", func := "undertow/undertowlaw07.RunsWhole", spec := "runsWhole", inPlace := ["slices.overlaps[undertow/api.Span]"], unfollowed := true, recurses := true, apart := false, narrowed := true }
def RunsWholeUptoSaid : Prop := runsWholeUptoRow.holds Try.pinned (OpenSpec.upto runsWholeSpec)

/-- 'undertowlaw07.RunsKeep', WHERE WHAT IT READS IS OF BULK AT MOST 1048576: true; the input reads as it did. -/
def runsKeepUptoRow : OpenClaim := { program := "ytcifbcdjkofomaa", sum := "55f2342b83f1677e934e54cf5b0acefe26bff3bca68122d03ab40a682ba36270", func := "undertow/undertowlaw07.RunsKeep", spec := "runsKeep", inPlace := ["slices.overlaps[undertow/api.Span]"], unfollowed := true, recurses := true, apart := false, narrowed := true }
def RunsKeepUptoSaid : Prop := runsKeepUptoRow.holds Try.pinned (OpenSpec.upto runsKeepSpec)

/-- 'undertowlaw07.RunsFull', WHERE WHAT IT READS IS OF BULK AT MOST 1048576: true; the input reads as it did. -/
def runsFullUptoRow : OpenClaim := { program := "ytcifbcdjkofomaa", sum := "55f2342b83f1677e934e54cf5b0acefe26bff3bca68122d03ab40a682ba36270", func := "undertow/undertowlaw07.RunsFull", spec := "runsFull", inPlace := ["slices.overlaps[undertow/api.Span]"], unfollowed := true, recurses := true, apart := false, narrowed := true }
def RunsFullUptoSaid : Prop := runsFullUptoRow.holds Try.pinned (OpenSpec.upto runsFullSpec)

/-- 'undertowlaw07.RunsPlay', WHERE WHAT IT READS IS OF BULK AT MOST 1048576: true; the input reads as it did. -/
def runsPlayUptoRow : OpenClaim := { program := "ytcifbcdjkofomaa", sum := "55f2342b83f1677e934e54cf5b0acefe26bff3bca68122d03ab40a682ba36270", func := "undertow/undertowlaw07.RunsPlay", spec := "runsPlay", inPlace := ["slices.overlaps[undertow/api.Span]"], unfollowed := true, recurses := true, apart := false, narrowed := true }
def RunsPlayUptoSaid : Prop := runsPlayUptoRow.holds Try.pinned (OpenSpec.upto runsPlaySpec)

/-- 'undertowlaw07.RunsOrder', WHERE WHAT IT READS IS OF BULK AT MOST 1048576: true; the input reads as it did. -/
def runsOrderUptoRow : OpenClaim := { program := "ytcifbcdjkofomaa", sum := "55f2342b83f1677e934e54cf5b0acefe26bff3bca68122d03ab40a682ba36270", func := "undertow/undertowlaw07.RunsOrder", spec := "runsOrder", inPlace := ["slices.overlaps[undertow/api.Span]"], unfollowed := true, recurses := true, apart := false, narrowed := true }
def RunsOrderUptoSaid : Prop := runsOrderUptoRow.holds Try.pinned (OpenSpec.upto runsOrderSpec)

/-- 'undertowlaw07.RunsNone', WHERE WHAT IT READS IS OF BULK AT MOST 1048576: true; the input reads as it did. -/
def runsNoneUptoRow : OpenClaim := { program := "ytcifbcdjkofomaa", sum := "55f2342b83f1677e934e54cf5b0acefe26bff3bca68122d03ab40a682ba36270", func := "undertow/undertowlaw07.RunsNone", spec := "runsNone", inPlace := ["slices.overlaps[undertow/api.Span]"], unfollowed := true, recurses := true, apart := false, narrowed := true }
def RunsNoneUptoSaid : Prop := runsNoneUptoRow.holds Try.pinned (OpenSpec.upto runsNoneSpec)

/-- 'undertowlaw23.HeardKeeps', WHERE WHAT IT READS IS OF BULK AT MOST 1048576: true; the input reads as it did. -/
def heardKeepsUptoRow : OpenClaim := { program := "ytcifbcdjkofomaa", sum := "55f2342b83f1677e934e54cf5b0acefe26bff3bca68122d03ab40a682ba36270", func := "undertow/undertowlaw23.HeardKeeps", spec := "heardKeeps", inPlace := ["slices.overlaps[undertow/api.Span]"], unfollowed := true, recurses := true, apart := false, narrowed := true }
def HeardKeepsUptoSaid : Prop := heardKeepsUptoRow.holds Try.pinned (OpenSpec.upto heardKeepsSpec)

/-- 'undertowlaw23.HeardOrder', WHERE WHAT IT READS IS OF BULK AT MOST 1048576: true; the input reads as it did. -/
def heardOrderUptoRow : OpenClaim := { program := "ytcifbcdjkofomaa", sum := "55f2342b83f1677e934e54cf5b0acefe26bff3bca68122d03ab40a682ba36270", func := "undertow/undertowlaw23.HeardOrder", spec := "heardOrder", inPlace := ["slices.overlaps[undertow/api.Span]"], unfollowed := true, recurses := true, apart := false, narrowed := true }
def HeardOrderUptoSaid : Prop := heardOrderUptoRow.holds Try.pinned (OpenSpec.upto heardOrderSpec)

/-- 'undertowlaw23.HeardPlays', WHERE WHAT IT READS IS OF BULK AT MOST 1048576: true; the input reads as it did. -/
def heardPlaysUptoRow : OpenClaim := { program := "ytcifbcdjkofomaa", sum := "55f2342b83f1677e934e54cf5b0acefe26bff3bca68122d03ab40a682ba36270", func := "undertow/undertowlaw23.HeardPlays", spec := "heardPlays", inPlace := ["slices.overlaps[undertow/api.Span]"], unfollowed := true, recurses := true, apart := false, narrowed := true }
def HeardPlaysUptoSaid : Prop := heardPlaysUptoRow.holds Try.pinned (OpenSpec.upto heardPlaysSpec)

/-- 'undertowlaw23.HeardNone', WHERE WHAT IT READS IS OF BULK AT MOST 1048576: true; the input reads as it did. -/
def heardNoneUptoRow : OpenClaim := { program := "ytcifbcdjkofomaa", sum := "55f2342b83f1677e934e54cf5b0acefe26bff3bca68122d03ab40a682ba36270", func := "undertow/undertowlaw23.HeardNone", spec := "heardNone", inPlace := ["slices.overlaps[undertow/api.Span]"], unfollowed := true, recurses := true, apart := false, narrowed := true }
def HeardNoneUptoSaid : Prop := heardNoneUptoRow.holds Try.pinned (OpenSpec.upto heardNoneSpec)

end Rows
end Go.Proofs.Ytcifbcdjkofomaa
