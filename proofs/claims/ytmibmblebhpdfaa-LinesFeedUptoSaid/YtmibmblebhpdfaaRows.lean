/-
  No cell of these rows narrows 'for every input' (looked for: loops, veiled, ifaces, maps, wideKeys, modest, calm, conditions, laid).
  DERIVED. THE GIVEN ROWS OF THIS SEAT. 5 by the template 'for every input the law returns true; each argument reads behind the call as it read before'; 0 by the template 'total and deterministic' (their statements: YtmibmblebhpdfaaTotals.lean).
  GIVEN WITH THE SEED: the statements are not yours to turn. If you find one false, say at which input.
  Laid BY PROGRAM, IN A SANDBOX (cutbox-rows.mjs): the forced cells as the released guide's own fill.sh prints them over the translation 7c1b83a37fd8720a… (all of the seat's roots in one cut). By AI agents, Wed Nov 11 2026. No macro, syntax, notation, axiom, sorry.
-/
import Derived.Test.YtmibmblebhpdfaaChecked
import GoSem.Claim
import GoSem.ClaimJoined
import GoSem.ClaimMapViews
import Derived.JoinedTies
import Derived.KernelRfl
namespace Go.Proofs.Ytmibmblebhpdfaa
/- THE CELL 'sum', in the pinned program and in every row, IS THE sha256 OF THE DUMP (.gsa) THAT YtmibmblebhpdfaaProg.lean LOADS. Nothing in Lean hashes anything: it is a label: what it is worth is what the hold of that sum in a sandbox is worth. -/
noncomputable def Try.pinned : Pinned := { name := "ytmibmblebhpdfaa", sum := "7c1b83a37fd8720a8270e36d009a30650236571e066b31f96f395bdcd0def5fa", checked := Try.checked }
namespace Rows
def none {H : Type} : Left H := { results := [], args := [] }

/-- 'dredgelaw23.LinesPieces': WHATEVER THE INPUT: true; the input reads as it did. -/
def linesPiecesSpec : ChangeSpec := { name := "linesPieces", fn := fun _ => fun
  | [d1, d2] => { results := [.lit (.bool true)], args := [d1, d2] }
  | _ => none }
def linesPiecesRow : OpenClaim := { program := "ytmibmblebhpdfaa", sum := "7c1b83a37fd8720a8270e36d009a30650236571e066b31f96f395bdcd0def5fa", func := "dredge/dredgelaw23.LinesPieces", spec := "linesPieces", inPlace := ["internal/bytealg.IndexByteString"], apart := false }
def LinesPiecesSaid : Prop := linesPiecesRow.holds Try.pinned (OpenSpec.ofChange linesPiecesSpec)

/-- ITS FALSE NEIGHBOUR: 'it returns false'. Refute it at one input. -/
def linesPiecesWrong : ChangeSpec := { name := "linesPieces", fn := fun _ => fun
  | [d1, d2] => { results := [.lit (.bool false)], args := [d1, d2] }
  | _ => none }
def LinesPiecesWrongFalsely : Prop := linesPiecesRow.holds Try.pinned (OpenSpec.ofChange linesPiecesWrong)

/-- 'dredgelaw23.LinesJoin': WHATEVER THE INPUT: true; the input reads as it did. -/
def linesJoinSpec : ChangeSpec := { name := "linesJoin", fn := fun _ => fun
  | [d] => { results := [.lit (.bool true)], args := [d] }
  | _ => none }
def linesJoinRow : OpenClaim := { program := "ytmibmblebhpdfaa", sum := "7c1b83a37fd8720a8270e36d009a30650236571e066b31f96f395bdcd0def5fa", func := "dredge/dredgelaw23.LinesJoin", spec := "linesJoin", inPlace := ["internal/bytealg.IndexByteString"], apart := false }
def LinesJoinSaid : Prop := linesJoinRow.holds Try.pinned (OpenSpec.ofChange linesJoinSpec)

/-- ITS FALSE NEIGHBOUR: 'it returns false'. Refute it at one input. -/
def linesJoinWrong : ChangeSpec := { name := "linesJoin", fn := fun _ => fun
  | [d] => { results := [.lit (.bool false)], args := [d] }
  | _ => none }
def LinesJoinWrongFalsely : Prop := linesJoinRow.holds Try.pinned (OpenSpec.ofChange linesJoinWrong)

/-- 'dredgelaw23.LinesTwo': WHATEVER THE INPUT: true; the input reads as it did. -/
def linesTwoSpec : ChangeSpec := { name := "linesTwo", fn := fun _ => fun
  | [d1, d2] => { results := [.lit (.bool true)], args := [d1, d2] }
  | _ => none }
def linesTwoRow : OpenClaim := { program := "ytmibmblebhpdfaa", sum := "7c1b83a37fd8720a8270e36d009a30650236571e066b31f96f395bdcd0def5fa", func := "dredge/dredgelaw23.LinesTwo", spec := "linesTwo", inPlace := ["internal/bytealg.IndexByteString"], apart := false }
def LinesTwoSaid : Prop := linesTwoRow.holds Try.pinned (OpenSpec.ofChange linesTwoSpec)

/-- ITS FALSE NEIGHBOUR: 'it returns false'. Refute it at one input. -/
def linesTwoWrong : ChangeSpec := { name := "linesTwo", fn := fun _ => fun
  | [d1, d2] => { results := [.lit (.bool false)], args := [d1, d2] }
  | _ => none }
def LinesTwoWrongFalsely : Prop := linesTwoRow.holds Try.pinned (OpenSpec.ofChange linesTwoWrong)

/-- 'dredgelaw23.LinesSplit': WHATEVER THE INPUT: true; the input reads as it did. -/
def linesSplitSpec : ChangeSpec := { name := "linesSplit", fn := fun _ => fun
  | [d] => { results := [.lit (.bool true)], args := [d] }
  | _ => none }
def linesSplitRow : OpenClaim := { program := "ytmibmblebhpdfaa", sum := "7c1b83a37fd8720a8270e36d009a30650236571e066b31f96f395bdcd0def5fa", func := "dredge/dredgelaw23.LinesSplit", spec := "linesSplit", inPlace := ["internal/bytealg.IndexByteString"], apart := false }
def LinesSplitSaid : Prop := linesSplitRow.holds Try.pinned (OpenSpec.ofChange linesSplitSpec)

/-- ITS FALSE NEIGHBOUR: 'it returns false'. Refute it at one input. -/
def linesSplitWrong : ChangeSpec := { name := "linesSplit", fn := fun _ => fun
  | [d] => { results := [.lit (.bool false)], args := [d] }
  | _ => none }
def LinesSplitWrongFalsely : Prop := linesSplitRow.holds Try.pinned (OpenSpec.ofChange linesSplitWrong)

/-- 'dredgelaw23.LinesFeed': WHATEVER THE INPUT: true; the input reads as it did. -/
def linesFeedSpec : ChangeSpec := { name := "linesFeed", fn := fun _ => fun
  | [d1, d2] => { results := [.lit (.bool true)], args := [d1, d2] }
  | _ => none }
def linesFeedRow : OpenClaim := { program := "ytmibmblebhpdfaa", sum := "7c1b83a37fd8720a8270e36d009a30650236571e066b31f96f395bdcd0def5fa", func := "dredge/dredgelaw23.LinesFeed", spec := "linesFeed", inPlace := ["internal/bytealg.IndexByteString"], apart := false }
def LinesFeedSaid : Prop := linesFeedRow.holds Try.pinned (OpenSpec.ofChange linesFeedSpec)

/-- ITS FALSE NEIGHBOUR: 'it returns false'. Refute it at one input. -/
def linesFeedWrong : ChangeSpec := { name := "linesFeed", fn := fun _ => fun
  | [d1, d2] => { results := [.lit (.bool false)], args := [d1, d2] }
  | _ => none }
def LinesFeedWrongFalsely : Prop := linesFeedRow.holds Try.pinned (OpenSpec.ofChange linesFeedWrong)

/- THE SECOND FORM. 'bulk': how many values and letters a reading holds, each counted each time it is reached (what is shared counts as often as it is met; a slice's spare places count too). A statement '..UptoSaid' is the law's where the arguments, and the package variables that the reading takes, are together of bulk at most 1048576: NARROWER than '..Said'. Prove '..Said' where nothing that the law and all that it calls make is longer than what came in: it says more and counts as full. Else prove '..UptoSaid'. A law counts once. -/
mutual
def uptoBulk {H : Type} : DataW H → Nat
  | .lit (.string bytes) => bytes.length + 1
  | .lit _ => 1
  | .nil => 1
  | .ptr d => uptoBulk d + 1
  | .slice elems spare => uptoBulkAll elems + uptoBulkAll spare + 1
  | .agg parts => uptoBulkAll parts + 1
  | .iface _ d => uptoBulk d + 1
  | .map entries => uptoBulkEntries entries + 1
  | .held _ => 1
def uptoBulkAll {H : Type} : List (DataW H) → Nat
  | [] => 0
  | d :: r => uptoBulk d + uptoBulkAll r
def uptoBulkEntries {H : Type} : List (Lit × DataW H) → Nat
  | [] => 0
  | x :: r => uptoBulkEntry x + uptoBulkEntries r
def uptoBulkEntry {H : Type} : Lit × DataW H → Nat
  | (.string bytes, d) => bytes.length + uptoBulk d + 1
  | (_, d) => uptoBulk d + 1
 end
def uptoSmall : (H : Type) → List (DataW H) → Bool := fun _ ds => decide (uptoBulkAll ds ≤ 1048576)
def OpenSpec.upto (s : _root_.Go.ChangeSpec) : _root_.Go.OpenSpec := { _root_.Go.OpenSpec.ofChange s with cond := some uptoSmall }

/-- 'dredgelaw23.LinesPieces', WHERE WHAT IT READS IS OF BULK AT MOST 1048576: true; the input reads as it did. -/
def linesPiecesUptoRow : OpenClaim := { program := "ytmibmblebhpdfaa", sum := "7c1b83a37fd8720a8270e36d009a30650236571e066b31f96f395bdcd0def5fa", func := "dredge/dredgelaw23.LinesPieces", spec := "linesPieces", inPlace := ["internal/bytealg.IndexByteString"], apart := false, narrowed := true }
def LinesPiecesUptoSaid : Prop := linesPiecesUptoRow.holds Try.pinned (OpenSpec.upto linesPiecesSpec)

/-- 'dredgelaw23.LinesJoin', WHERE WHAT IT READS IS OF BULK AT MOST 1048576: true; the input reads as it did. -/
def linesJoinUptoRow : OpenClaim := { program := "ytmibmblebhpdfaa", sum := "7c1b83a37fd8720a8270e36d009a30650236571e066b31f96f395bdcd0def5fa", func := "dredge/dredgelaw23.LinesJoin", spec := "linesJoin", inPlace := ["internal/bytealg.IndexByteString"], apart := false, narrowed := true }
def LinesJoinUptoSaid : Prop := linesJoinUptoRow.holds Try.pinned (OpenSpec.upto linesJoinSpec)

/-- 'dredgelaw23.LinesTwo', WHERE WHAT IT READS IS OF BULK AT MOST 1048576: true; the input reads as it did. -/
def linesTwoUptoRow : OpenClaim := { program := "ytmibmblebhpdfaa", sum := "7c1b83a37fd8720a8270e36d009a30650236571e066b31f96f395bdcd0def5fa", func := "dredge/dredgelaw23.LinesTwo", spec := "linesTwo", inPlace := ["internal/bytealg.IndexByteString"], apart := false, narrowed := true }
def LinesTwoUptoSaid : Prop := linesTwoUptoRow.holds Try.pinned (OpenSpec.upto linesTwoSpec)

/-- 'dredgelaw23.LinesSplit', WHERE WHAT IT READS IS OF BULK AT MOST 1048576: true; the input reads as it did. -/
def linesSplitUptoRow : OpenClaim := { program := "ytmibmblebhpdfaa", sum := "7c1b83a37fd8720a8270e36d009a30650236571e066b31f96f395bdcd0def5fa", func := "dredge/dredgelaw23.LinesSplit", spec := "linesSplit", inPlace := ["internal/bytealg.IndexByteString"], apart := false, narrowed := true }
def LinesSplitUptoSaid : Prop := linesSplitUptoRow.holds Try.pinned (OpenSpec.upto linesSplitSpec)

/-- 'dredgelaw23.LinesFeed', WHERE WHAT IT READS IS OF BULK AT MOST 1048576: true; the input reads as it did. -/
def linesFeedUptoRow : OpenClaim := { program := "ytmibmblebhpdfaa", sum := "7c1b83a37fd8720a8270e36d009a30650236571e066b31f96f395bdcd0def5fa", func := "dredge/dredgelaw23.LinesFeed", spec := "linesFeed", inPlace := ["internal/bytealg.IndexByteString"], apart := false, narrowed := true }
def LinesFeedUptoSaid : Prop := linesFeedUptoRow.holds Try.pinned (OpenSpec.upto linesFeedSpec)

end Rows
end Go.Proofs.Ytmibmblebhpdfaa
