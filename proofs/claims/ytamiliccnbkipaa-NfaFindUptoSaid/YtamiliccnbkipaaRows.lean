/-
  No cell of these rows narrows 'for every input' (looked for: loops, veiled, ifaces, maps, wideKeys, modest, calm, conditions, laid).
  DERIVED. THE GIVEN ROWS OF THIS SEAT. 6 by the template 'for every input the law returns true; each argument reads behind the call as it read before'; 0 by the template 'total and deterministic' (their statements: YtamiliccnbkipaaTotals.lean).
  GIVEN WITH THE SEED: the statements are not yours to turn. If you find one false, say at which input.
  Laid BY PROGRAM, IN A SANDBOX (cutbox-rows.mjs): the forced cells as the released guide's own fill.sh prints them over the translation 5a59d954b55ac35e… (all of the seat's roots in one cut). By AI agents, Wed Nov 11 2026. No macro, syntax, notation, axiom, sorry.
-/
import Derived.Test.YtamiliccnbkipaaChecked
import GoSem.Claim
import GoSem.ClaimJoined
import GoSem.ClaimMapViews
import Derived.JoinedTies
import Derived.KernelRfl
namespace Go.Proofs.Ytamiliccnbkipaa
/- THE CELL 'sum', in the pinned program and in every row, IS THE sha256 OF THE DUMP (.gsa) THAT YtamiliccnbkipaaProg.lean LOADS. Nothing in Lean hashes anything: it is a label: what it is worth is what the hold of that sum in a sandbox is worth. -/
noncomputable def Try.pinned : Pinned := { name := "ytamiliccnbkipaa", sum := "5a59d954b55ac35e21f583ba0bcb299d85dcb436ce8a25328538751850050379", checked := Try.checked }
namespace Rows
def none {H : Type} : Left H := { results := [], args := [] }

/-- 'dredgelaw16.NfaLongest': WHATEVER THE INPUT: true; the input reads as it did. -/
def nfaLongestSpec : ChangeSpec := { name := "nfaLongest", fn := fun _ => fun
  | [d1, d2, d3] => { results := [.lit (.bool true)], args := [d1, d2, d3] }
  | _ => none }
def nfaLongestRow : OpenClaim := { program := "ytamiliccnbkipaa", sum := "5a59d954b55ac35e21f583ba0bcb299d85dcb436ce8a25328538751850050379", func := "dredge/dredgelaw16.NfaLongest", spec := "nfaLongest", unfollowed := true, recurses := true, apart := false }
def NfaLongestSaid : Prop := nfaLongestRow.holds Try.pinned (OpenSpec.ofChange nfaLongestSpec)

/-- ITS FALSE NEIGHBOUR: 'it returns false'. Refute it at one input. -/
def nfaLongestWrong : ChangeSpec := { name := "nfaLongest", fn := fun _ => fun
  | [d1, d2, d3] => { results := [.lit (.bool false)], args := [d1, d2, d3] }
  | _ => none }
def NfaLongestWrongFalsely : Prop := nfaLongestRow.holds Try.pinned (OpenSpec.ofChange nfaLongestWrong)

/-- 'dredgelaw16.NfaFind': WHATEVER THE INPUT: true; the input reads as it did. -/
def nfaFindSpec : ChangeSpec := { name := "nfaFind", fn := fun _ => fun
  | [d1, d2, d3] => { results := [.lit (.bool true)], args := [d1, d2, d3] }
  | _ => none }
def nfaFindRow : OpenClaim := { program := "ytamiliccnbkipaa", sum := "5a59d954b55ac35e21f583ba0bcb299d85dcb436ce8a25328538751850050379", func := "dredge/dredgelaw16.NfaFind", spec := "nfaFind", unfollowed := true, recurses := true, apart := false }
def NfaFindSaid : Prop := nfaFindRow.holds Try.pinned (OpenSpec.ofChange nfaFindSpec)

/-- ITS FALSE NEIGHBOUR: 'it returns false'. Refute it at one input. -/
def nfaFindWrong : ChangeSpec := { name := "nfaFind", fn := fun _ => fun
  | [d1, d2, d3] => { results := [.lit (.bool false)], args := [d1, d2, d3] }
  | _ => none }
def NfaFindWrongFalsely : Prop := nfaFindRow.holds Try.pinned (OpenSpec.ofChange nfaFindWrong)

/-- 'dredgelaw16.NfaFollows': WHATEVER THE INPUT: true; the input reads as it did. -/
def nfaFollowsSpec : ChangeSpec := { name := "nfaFollows", fn := fun _ => fun
  | [d1, d2] => { results := [.lit (.bool true)], args := [d1, d2] }
  | _ => none }
def nfaFollowsRow : OpenClaim := { program := "ytamiliccnbkipaa", sum := "5a59d954b55ac35e21f583ba0bcb299d85dcb436ce8a25328538751850050379", func := "dredge/dredgelaw16.NfaFollows", spec := "nfaFollows", unfollowed := true, recurses := true, apart := false }
def NfaFollowsSaid : Prop := nfaFollowsRow.holds Try.pinned (OpenSpec.ofChange nfaFollowsSpec)

/-- ITS FALSE NEIGHBOUR: 'it returns false'. Refute it at one input. -/
def nfaFollowsWrong : ChangeSpec := { name := "nfaFollows", fn := fun _ => fun
  | [d1, d2] => { results := [.lit (.bool false)], args := [d1, d2] }
  | _ => none }
def NfaFollowsWrongFalsely : Prop := nfaFollowsRow.holds Try.pinned (OpenSpec.ofChange nfaFollowsWrong)

/-- 'dredgelaw16.NfaAhead': WHATEVER THE INPUT: true; the input reads as it did. -/
def nfaAheadSpec : ChangeSpec := { name := "nfaAhead", fn := fun _ => fun
  | [d1, d2, d3] => { results := [.lit (.bool true)], args := [d1, d2, d3] }
  | _ => none }
def nfaAheadRow : OpenClaim := { program := "ytamiliccnbkipaa", sum := "5a59d954b55ac35e21f583ba0bcb299d85dcb436ce8a25328538751850050379", func := "dredge/dredgelaw16.NfaAhead", spec := "nfaAhead", unfollowed := true, recurses := true, apart := false }
def NfaAheadSaid : Prop := nfaAheadRow.holds Try.pinned (OpenSpec.ofChange nfaAheadSpec)

/-- ITS FALSE NEIGHBOUR: 'it returns false'. Refute it at one input. -/
def nfaAheadWrong : ChangeSpec := { name := "nfaAhead", fn := fun _ => fun
  | [d1, d2, d3] => { results := [.lit (.bool false)], args := [d1, d2, d3] }
  | _ => none }
def NfaAheadWrongFalsely : Prop := nfaAheadRow.holds Try.pinned (OpenSpec.ofChange nfaAheadWrong)

/-- 'dredgelaw16.NfaBehind': WHATEVER THE INPUT: true; the input reads as it did. -/
def nfaBehindSpec : ChangeSpec := { name := "nfaBehind", fn := fun _ => fun
  | [d1, d2, d3] => { results := [.lit (.bool true)], args := [d1, d2, d3] }
  | _ => none }
def nfaBehindRow : OpenClaim := { program := "ytamiliccnbkipaa", sum := "5a59d954b55ac35e21f583ba0bcb299d85dcb436ce8a25328538751850050379", func := "dredge/dredgelaw16.NfaBehind", spec := "nfaBehind", unfollowed := true, recurses := true, apart := false }
def NfaBehindSaid : Prop := nfaBehindRow.holds Try.pinned (OpenSpec.ofChange nfaBehindSpec)

/-- ITS FALSE NEIGHBOUR: 'it returns false'. Refute it at one input. -/
def nfaBehindWrong : ChangeSpec := { name := "nfaBehind", fn := fun _ => fun
  | [d1, d2, d3] => { results := [.lit (.bool false)], args := [d1, d2, d3] }
  | _ => none }
def NfaBehindWrongFalsely : Prop := nfaBehindRow.holds Try.pinned (OpenSpec.ofChange nfaBehindWrong)

/-- 'dredgelaw16.NfaEmpty': WHATEVER THE INPUT: true; the input reads as it did. -/
def nfaEmptySpec : ChangeSpec := { name := "nfaEmpty", fn := fun _ => fun
  | [d1, d2, d3] => { results := [.lit (.bool true)], args := [d1, d2, d3] }
  | _ => none }
def nfaEmptyRow : OpenClaim := { program := "ytamiliccnbkipaa", sum := "5a59d954b55ac35e21f583ba0bcb299d85dcb436ce8a25328538751850050379", func := "dredge/dredgelaw16.NfaEmpty", spec := "nfaEmpty", unfollowed := true, recurses := true, apart := false }
def NfaEmptySaid : Prop := nfaEmptyRow.holds Try.pinned (OpenSpec.ofChange nfaEmptySpec)

/-- ITS FALSE NEIGHBOUR: 'it returns false'. Refute it at one input. -/
def nfaEmptyWrong : ChangeSpec := { name := "nfaEmpty", fn := fun _ => fun
  | [d1, d2, d3] => { results := [.lit (.bool false)], args := [d1, d2, d3] }
  | _ => none }
def NfaEmptyWrongFalsely : Prop := nfaEmptyRow.holds Try.pinned (OpenSpec.ofChange nfaEmptyWrong)

/- THE SECOND FORM. 'bulk': how many values and letters a reading holds, each counted each time it is reached (what is shared counts as often as it is met; a slice's spare places count too). A statement '..UptoSaid' is the law's where the arguments, and the package variables that the reading takes, are together of bulk at most 1048576: NARROWER than '..Said'. Prove '..Said' where nothing that the law and all that it calls make is longer than what came in: it says more and counts as full. Else prove '..UptoSaid'. A law counts once. -/
mutual
def uptoBulk {H : Type} : DataW H → Nat
  | .lit (.string bytes) => bytes.length + 1
  | .lit _ => 1
  | .nil => 1
  | .ptr d => uptoBulk d + 1
  | .slice elems spare => uptoBulkAll elems + uptoBulkAll spare + 1
  | .agg parts => uptoBulkAll parts + 1
  | .iface _ d => uptoBulk d + 1
  | .map entries => uptoBulkEntries entries + 1
  | .held _ => 1
def uptoBulkAll {H : Type} : List (DataW H) → Nat
  | [] => 0
  | d :: r => uptoBulk d + uptoBulkAll r
def uptoBulkEntries {H : Type} : List (Lit × DataW H) → Nat
  | [] => 0
  | x :: r => uptoBulkEntry x + uptoBulkEntries r
def uptoBulkEntry {H : Type} : Lit × DataW H → Nat
  | (.string bytes, d) => bytes.length + uptoBulk d + 1
  | (_, d) => uptoBulk d + 1
 end
def uptoSmall : (H : Type) → List (DataW H) → Bool := fun _ ds => decide (uptoBulkAll ds ≤ 1048576)
def OpenSpec.upto (s : _root_.Go.ChangeSpec) : _root_.Go.OpenSpec := { _root_.Go.OpenSpec.ofChange s with cond := some uptoSmall }

/-- 'dredgelaw16.NfaLongest', WHERE WHAT IT READS IS OF BULK AT MOST 1048576: true; the input reads as it did. -/
def nfaLongestUptoRow : OpenClaim := { program := "ytamiliccnbkipaa", sum := "5a59d954b55ac35e21f583ba0bcb299d85dcb436ce8a25328538751850050379", func := "dredge/dredgelaw16.NfaLongest", spec := "nfaLongest", unfollowed := true, recurses := true, apart := false, narrowed := true }
def NfaLongestUptoSaid : Prop := nfaLongestUptoRow.holds Try.pinned (OpenSpec.upto nfaLongestSpec)

/-- 'dredgelaw16.NfaFind', WHERE WHAT IT READS IS OF BULK AT MOST 1048576: true; the input reads as it did. -/
def nfaFindUptoRow : OpenClaim := { program := "ytamiliccnbkipaa", sum := "5a59d954b55ac35e21f583ba0bcb299d85dcb436ce8a25328538751850050379", func := "dredge/dredgelaw16.NfaFind", spec := "nfaFind", unfollowed := true, recurses := true, apart := false, narrowed := true }
def NfaFindUptoSaid : Prop := nfaFindUptoRow.holds Try.pinned (OpenSpec.upto nfaFindSpec)

/-- 'dredgelaw16.NfaFollows', WHERE WHAT IT READS IS OF BULK AT MOST 1048576: true; the input reads as it did. -/
def nfaFollowsUptoRow : OpenClaim := { program := "ytamiliccnbkipaa", sum := "5a59d954b55ac35e21f583ba0bcb299d85dcb436ce8a25328538751850050379", func := "dredge/dredgelaw16.NfaFollows", spec := "nfaFollows", unfollowed := true, recurses := true, apart := false, narrowed := true }
def NfaFollowsUptoSaid : Prop := nfaFollowsUptoRow.holds Try.pinned (OpenSpec.upto nfaFollowsSpec)

/-- 'dredgelaw16.NfaAhead', WHERE WHAT IT READS IS OF BULK AT MOST 1048576: true; the input reads as it did. -/
def nfaAheadUptoRow : OpenClaim := { program := "ytamiliccnbkipaa", sum := "5a59d954b55ac35e21f583ba0bcb299d85dcb436ce8a25328538751850050379", func := "dredge/dredgelaw16.NfaAhead", spec := "nfaAhead", unfollowed := true, recurses := true, apart := false, narrowed := true }
def NfaAheadUptoSaid : Prop := nfaAheadUptoRow.holds Try.pinned (OpenSpec.upto nfaAheadSpec)

/-- 'dredgelaw16.NfaBehind', WHERE WHAT IT READS IS OF BULK AT MOST 1048576: true; the input reads as it did. -/
def nfaBehindUptoRow : OpenClaim := { program := "ytamiliccnbkipaa", sum := "5a59d954b55ac35e21f583ba0bcb299d85dcb436ce8a25328538751850050379", func := "dredge/dredgelaw16.NfaBehind", spec := "nfaBehind", unfollowed := true, recurses := true, apart := false, narrowed := true }
def NfaBehindUptoSaid : Prop := nfaBehindUptoRow.holds Try.pinned (OpenSpec.upto nfaBehindSpec)

/-- 'dredgelaw16.NfaEmpty', WHERE WHAT IT READS IS OF BULK AT MOST 1048576: true; the input reads as it did. -/
def nfaEmptyUptoRow : OpenClaim := { program := "ytamiliccnbkipaa", sum := "5a59d954b55ac35e21f583ba0bcb299d85dcb436ce8a25328538751850050379", func := "dredge/dredgelaw16.NfaEmpty", spec := "nfaEmpty", unfollowed := true, recurses := true, apart := false, narrowed := true }
def NfaEmptyUptoSaid : Prop := nfaEmptyUptoRow.holds Try.pinned (OpenSpec.upto nfaEmptySpec)

end Rows
end Go.Proofs.Ytamiliccnbkipaa
