/-
  No cell of these rows narrows 'for every input' (looked for: loops, veiled, ifaces, maps, wideKeys, modest, calm, conditions, laid).
  DERIVED. THE GIVEN ROWS OF THIS SEAT. 5 by the template 'for every input the law returns true; each argument reads behind the call as it read before'; 0 by the template 'total and deterministic' (their statements: YtggjcjdjhgfbmaaGreatTotals.lean).
  GIVEN WITH THE SEED: the statements are not yours to turn. If you find one false, say at which input.
  Laid BY PROGRAM, IN A SANDBOX (cutbox-rows.mjs): the forced cells as the released guide's own fill.sh prints them over the translation 751670cf8ce874c1… (all of the seat's roots in one cut). By AI agents, Wed Nov 11 2026. No macro, syntax, notation, axiom, sorry.
-/
import Derived.Test.YtggjcjdjhgfbmaaGreatChecked
import GoSem.Claim
import GoSem.ClaimJoined
import GoSem.ClaimMapViews
import Derived.JoinedTies
import Derived.KernelRfl
namespace Go.Proofs.YtggjcjdjhgfbmaaGreat
/- THE CELL 'sum', in the pinned program and in every row, IS THE sha256 OF THE DUMP (.gsa) THAT YtggjcjdjhgfbmaaGreatProg.lean LOADS. Nothing in Lean hashes anything: it is a label: what it is worth is what the hold of that sum in a sandbox is worth. -/
noncomputable def Tryz.pinned : Pinned := { name := "ytggjcjdjhgfbmaagreat", sum := "751670cf8ce874c124a558e5fd33ef1fa488ae9234c7c2e6322483895190f6c2", checked := Tryz.checked }
namespace Rows
def none {H : Type} : Left H := { results := [], args := [] }

/-- 'sacristylaw18.IrChecks': WHATEVER THE INPUT: true; the input reads as it did. -/
def irChecksSpec : ChangeSpec := { name := "irChecks", fn := fun _ => fun
  | [d] => { results := [.lit (.bool true)], args := [d] }
  | _ => none }
def irChecksRow : OpenClaim := { program := "ytggjcjdjhgfbmaagreat", sum := "751670cf8ce874c124a558e5fd33ef1fa488ae9234c7c2e6322483895190f6c2", func := "sacristy/sacristylaw18.IrChecks", spec := "irChecks", unfollowed := true, recurses := true, apart := false }
def IrChecksSaid : Prop := irChecksRow.holds Tryz.pinned (OpenSpec.ofChange irChecksSpec)

/-- ITS FALSE NEIGHBOUR: 'it returns false'. Refute it at one input. -/
def irChecksWrong : ChangeSpec := { name := "irChecks", fn := fun _ => fun
  | [d] => { results := [.lit (.bool false)], args := [d] }
  | _ => none }
def IrChecksWrongFalsely : Prop := irChecksRow.holds Tryz.pinned (OpenSpec.ofChange irChecksWrong)

/-- 'sacristylaw23.FoldMay': WHATEVER THE INPUT: true; the input reads as it did. -/
def foldMaySpec : ChangeSpec := { name := "foldMay", fn := fun _ => fun
  | [d] => { results := [.lit (.bool true)], args := [d] }
  | _ => none }
def foldMayRow : OpenClaim := { program := "ytggjcjdjhgfbmaagreat", sum := "751670cf8ce874c124a558e5fd33ef1fa488ae9234c7c2e6322483895190f6c2", func := "sacristy/sacristylaw23.FoldMay", spec := "foldMay", inPlace := ["maps.clone"], unfollowed := true, recurses := true, apart := false }
def FoldMaySaid : Prop := foldMayRow.holds Tryz.pinned (OpenSpec.ofChange foldMaySpec)

/-- ITS FALSE NEIGHBOUR: 'it returns false'. Refute it at one input. -/
def foldMayWrong : ChangeSpec := { name := "foldMay", fn := fun _ => fun
  | [d] => { results := [.lit (.bool false)], args := [d] }
  | _ => none }
def FoldMayWrongFalsely : Prop := foldMayRow.holds Tryz.pinned (OpenSpec.ofChange foldMayWrong)

/-- 'sacristylaw23.FoldRuns': WHATEVER THE INPUT: true; the input reads as it did. -/
def foldRunsSpec : ChangeSpec := { name := "foldRuns", fn := fun _ => fun
  | [d1, d2, d3, d4] => { results := [.lit (.bool true)], args := [d1, d2, d3, d4] }
  | _ => none }
def foldRunsRow : OpenClaim := { program := "ytggjcjdjhgfbmaagreat", sum := "751670cf8ce874c124a558e5fd33ef1fa488ae9234c7c2e6322483895190f6c2", func := "sacristy/sacristylaw23.FoldRuns", spec := "foldRuns", inPlace := ["maps.clone"], unfollowed := true, recurses := true, apart := false }
def FoldRunsSaid : Prop := foldRunsRow.holds Tryz.pinned (OpenSpec.ofChange foldRunsSpec)

/-- ITS FALSE NEIGHBOUR: 'it returns false'. Refute it at one input. -/
def foldRunsWrong : ChangeSpec := { name := "foldRuns", fn := fun _ => fun
  | [d1, d2, d3, d4] => { results := [.lit (.bool false)], args := [d1, d2, d3, d4] }
  | _ => none }
def FoldRunsWrongFalsely : Prop := foldRunsRow.holds Tryz.pinned (OpenSpec.ofChange foldRunsWrong)

/-- 'sacristylaw23.FoldAgain': WHATEVER THE INPUT: true; the input reads as it did. -/
def foldAgainSpec : ChangeSpec := { name := "foldAgain", fn := fun _ => fun
  | [d1, d2, d3, d4] => { results := [.lit (.bool true)], args := [d1, d2, d3, d4] }
  | _ => none }
def foldAgainRow : OpenClaim := { program := "ytggjcjdjhgfbmaagreat", sum := "751670cf8ce874c124a558e5fd33ef1fa488ae9234c7c2e6322483895190f6c2", func := "sacristy/sacristylaw23.FoldAgain", spec := "foldAgain", inPlace := ["maps.clone"], unfollowed := true, recurses := true, apart := false }
def FoldAgainSaid : Prop := foldAgainRow.holds Tryz.pinned (OpenSpec.ofChange foldAgainSpec)

/-- ITS FALSE NEIGHBOUR: 'it returns false'. Refute it at one input. -/
def foldAgainWrong : ChangeSpec := { name := "foldAgain", fn := fun _ => fun
  | [d1, d2, d3, d4] => { results := [.lit (.bool false)], args := [d1, d2, d3, d4] }
  | _ => none }
def FoldAgainWrongFalsely : Prop := foldAgainRow.holds Tryz.pinned (OpenSpec.ofChange foldAgainWrong)

/-- 'sacristylaw23.FoldSums': WHATEVER THE INPUT: true; the input reads as it did. -/
def foldSumsSpec : ChangeSpec := { name := "foldSums", fn := fun _ => fun
  | [d1, d2] => { results := [.lit (.bool true)], args := [d1, d2] }
  | _ => none }
def foldSumsRow : OpenClaim := { program := "ytggjcjdjhgfbmaagreat", sum := "751670cf8ce874c124a558e5fd33ef1fa488ae9234c7c2e6322483895190f6c2", func := "sacristy/sacristylaw23.FoldSums", spec := "foldSums", inPlace := ["maps.clone"], unfollowed := true, recurses := true, apart := false }
def FoldSumsSaid : Prop := foldSumsRow.holds Tryz.pinned (OpenSpec.ofChange foldSumsSpec)

/-- ITS FALSE NEIGHBOUR: 'it returns false'. Refute it at one input. -/
def foldSumsWrong : ChangeSpec := { name := "foldSums", fn := fun _ => fun
  | [d1, d2] => { results := [.lit (.bool false)], args := [d1, d2] }
  | _ => none }
def FoldSumsWrongFalsely : Prop := foldSumsRow.holds Tryz.pinned (OpenSpec.ofChange foldSumsWrong)

/- THE SECOND FORM. 'bulk': how many values and letters a reading holds, each counted each time it is reached (what is shared counts as often as it is met; a slice's spare places count too). A statement '..UptoSaid' is the law's where the arguments, and the package variables that the reading takes, are together of bulk at most 1048576: NARROWER than '..Said'. Prove '..Said' where nothing that the law and all that it calls make is longer than what came in: it says more and counts as full. Else prove '..UptoSaid'. A law counts once. -/
mutual
def uptoBulk {H : Type} : DataW H → Nat
  | .lit (.string bytes) => bytes.length + 1
  | .lit _ => 1
  | .nil => 1
  | .ptr d => uptoBulk d + 1
  | .slice elems spare => uptoBulkAll elems + uptoBulkAll spare + 1
  | .agg parts => uptoBulkAll parts + 1
  | .iface _ d => uptoBulk d + 1
  | .map entries => uptoBulkEntries entries + 1
  | .held _ => 1
def uptoBulkAll {H : Type} : List (DataW H) → Nat
  | [] => 0
  | d :: r => uptoBulk d + uptoBulkAll r
def uptoBulkEntries {H : Type} : List (Lit × DataW H) → Nat
  | [] => 0
  | x :: r => uptoBulkEntry x + uptoBulkEntries r
def uptoBulkEntry {H : Type} : Lit × DataW H → Nat
  | (.string bytes, d) => bytes.length + uptoBulk d + 1
  | (_, d) => uptoBulk d + 1
 end
def uptoSmall : (H : Type) → List (DataW H) → Bool := fun _ ds => decide (uptoBulkAll ds ≤ 1048576)
def OpenSpec.upto (s : _root_.Go.ChangeSpec) : _root_.Go.OpenSpec := { _root_.Go.OpenSpec.ofChange s with cond := some uptoSmall }

/-- 'sacristylaw18.IrChecks', WHERE WHAT IT READS IS OF BULK AT MOST 1048576: true; the input reads as it did. -/
def irChecksUptoRow : OpenClaim := { program := "ytggjcjdjhgfbmaagreat", sum := "751670cf8ce874c124a558e5fd33ef1fa488ae9234c7c2e6322483895190f6c2", func := "sacristy/sacristylaw18.IrChecks", spec := "irChecks", unfollowed := true, recurses := true, apart := false, narrowed := true }
def IrChecksUptoSaid : Prop := irChecksUptoRow.holds Tryz.pinned (OpenSpec.upto irChecksSpec)

/-- 'sacristylaw23.FoldMay', WHERE WHAT IT READS IS OF BULK AT MOST 1048576: true; the input reads as it did. -/
def foldMayUptoRow : OpenClaim := { program := "ytggjcjdjhgfbmaagreat", sum := "751670cf8ce874c124a558e5fd33ef1fa488ae9234c7c2e6322483895190f6c2", func := "sacristy/sacristylaw23.FoldMay", spec := "foldMay", inPlace := ["maps.clone"], unfollowed := true, recurses := true, apart := false, narrowed := true }
def FoldMayUptoSaid : Prop := foldMayUptoRow.holds Tryz.pinned (OpenSpec.upto foldMaySpec)

/-- 'sacristylaw23.FoldRuns', WHERE WHAT IT READS IS OF BULK AT MOST 1048576: true; the input reads as it did. -/
def foldRunsUptoRow : OpenClaim := { program := "ytggjcjdjhgfbmaagreat", sum := "751670cf8ce874c124a558e5fd33ef1fa488ae9234c7c2e6322483895190f6c2", func := "sacristy/sacristylaw23.FoldRuns", spec := "foldRuns", inPlace := ["maps.clone"], unfollowed := true, recurses := true, apart := false, narrowed := true }
def FoldRunsUptoSaid : Prop := foldRunsUptoRow.holds Tryz.pinned (OpenSpec.upto foldRunsSpec)

/-- 'sacristylaw23.FoldAgain', WHERE WHAT IT READS IS OF BULK AT MOST 1048576: true; the input reads as it did. -/
def foldAgainUptoRow : OpenClaim := { program := "ytggjcjdjhgfbmaagreat", sum := "751670cf8ce874c124a558e5fd33ef1fa488ae9234c7c2e6322483895190f6c2", func := "sacristy/sacristylaw23.FoldAgain", spec := "foldAgain", inPlace := ["maps.clone"], unfollowed := true, recurses := true, apart := false, narrowed := true }
def FoldAgainUptoSaid : Prop := foldAgainUptoRow.holds Tryz.pinned (OpenSpec.upto foldAgainSpec)

/-- 'sacristylaw23.FoldSums', WHERE WHAT IT READS IS OF BULK AT MOST 1048576: true; the input reads as it did. -/
def foldSumsUptoRow : OpenClaim := { program := "ytggjcjdjhgfbmaagreat", sum := "751670cf8ce874c124a558e5fd33ef1fa488ae9234c7c2e6322483895190f6c2", func := "sacristy/sacristylaw23.FoldSums", spec := "foldSums", inPlace := ["maps.clone"], unfollowed := true, recurses := true, apart := false, narrowed := true }
def FoldSumsUptoSaid : Prop := foldSumsUptoRow.holds Tryz.pinned (OpenSpec.upto foldSumsSpec)

end Rows
end Go.Proofs.YtggjcjdjhgfbmaaGreat
