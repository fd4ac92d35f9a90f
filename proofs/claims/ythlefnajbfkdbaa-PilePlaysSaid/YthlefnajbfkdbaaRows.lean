/-
  No cell of these rows narrows 'for every input' (looked for: loops, veiled, ifaces, maps, wideKeys, modest, calm, conditions, laid).
  DERIVED. THE GIVEN ROWS OF THIS SEAT. 6 by the template 'for every input the law returns true; each argument reads behind the call as it read before'; 0 by the template 'total and deterministic' (their statements: YthlefnajbfkdbaaTotals.lean).
  GIVEN WITH THE SEED: the statements are not yours to turn. If you find one false, say at which input.
  Laid BY PROGRAM, IN A SANDBOX (cutbox-rows.mjs): the forced cells as the released guide's own fill.sh prints them over the translation a4c173d81cc36df5… (all of the seat's roots in one cut). By AI agents, Wed Nov 11 2026. No macro, syntax, notation, axiom, sorry.
-/
import Derived.Test.YthlefnajbfkdbaaChecked
import GoSem.Claim
import GoSem.ClaimJoined
import GoSem.ClaimMapViews
import Derived.JoinedTies
import Derived.KernelRfl
namespace Go.Proofs.Ythlefnajbfkdbaa
/- THE CELL 'sum', in the pinned program and in every row, IS THE sha256 OF THE DUMP (.gsa) THAT YthlefnajbfkdbaaProg.lean LOADS. Nothing in Lean hashes anything: it is a label: what it is worth is what the hold of that sum in a sandbox is worth. -/
noncomputable def Try.pinned : Pinned := { name := "ythlefnajbfkdbaa", sum := "a4c173d81cc36df5e121844ecaea5e756f0a766c88b0e9adcbd8eb000a2c0be7", checked := Try.checked }
namespace Rows
def none {H : Type} : Left H := { results := [], args := [] }

/-- 'dredgelaw04.PileCuts': WHATEVER THE INPUT: true; the input reads as it did. -/
def pileCutsSpec : ChangeSpec := { name := "pileCuts", fn := fun _ => fun
  | [d1, d2] => { results := [.lit (.bool true)], args := [d1, d2] }
  | _ => none }
def pileCutsRow : OpenClaim := { program := "ythlefnajbfkdbaa", sum := "a4c173d81cc36df5e121844ecaea5e756f0a766c88b0e9adcbd8eb000a2c0be7", func := "dredge/dredgelaw04.PileCuts", spec := "pileCuts", apart := false }
def PileCutsSaid : Prop := pileCutsRow.holds Try.pinned (OpenSpec.ofChange pileCutsSpec)

/-- ITS FALSE NEIGHBOUR: 'it returns false'. Refute it at one input. -/
def pileCutsWrong : ChangeSpec := { name := "pileCuts", fn := fun _ => fun
  | [d1, d2] => { results := [.lit (.bool false)], args := [d1, d2] }
  | _ => none }
def PileCutsWrongFalsely : Prop := pileCutsRow.holds Try.pinned (OpenSpec.ofChange pileCutsWrong)

/-- 'dredgelaw04.CellsPlay': WHATEVER THE INPUT: true; the input reads as it did. -/
def cellsPlaySpec : ChangeSpec := { name := "cellsPlay", fn := fun _ => fun
  | [d1, d2] => { results := [.lit (.bool true)], args := [d1, d2] }
  | _ => none }
def cellsPlayRow : OpenClaim := { program := "ythlefnajbfkdbaa", sum := "a4c173d81cc36df5e121844ecaea5e756f0a766c88b0e9adcbd8eb000a2c0be7", func := "dredge/dredgelaw04.CellsPlay", spec := "cellsPlay", apart := false }
def CellsPlaySaid : Prop := cellsPlayRow.holds Try.pinned (OpenSpec.ofChange cellsPlaySpec)

/-- ITS FALSE NEIGHBOUR: 'it returns false'. Refute it at one input. -/
def cellsPlayWrong : ChangeSpec := { name := "cellsPlay", fn := fun _ => fun
  | [d1, d2] => { results := [.lit (.bool false)], args := [d1, d2] }
  | _ => none }
def CellsPlayWrongFalsely : Prop := cellsPlayRow.holds Try.pinned (OpenSpec.ofChange cellsPlayWrong)

/-- 'dredgelaw04.CellsFollow': WHATEVER THE INPUT: true; the input reads as it did. -/
def cellsFollowSpec : ChangeSpec := { name := "cellsFollow", fn := fun _ => fun
  | [d1, d2, d3] => { results := [.lit (.bool true)], args := [d1, d2, d3] }
  | _ => none }
def cellsFollowRow : OpenClaim := { program := "ythlefnajbfkdbaa", sum := "a4c173d81cc36df5e121844ecaea5e756f0a766c88b0e9adcbd8eb000a2c0be7", func := "dredge/dredgelaw04.CellsFollow", spec := "cellsFollow", apart := false }
def CellsFollowSaid : Prop := cellsFollowRow.holds Try.pinned (OpenSpec.ofChange cellsFollowSpec)

/-- ITS FALSE NEIGHBOUR: 'it returns false'. Refute it at one input. -/
def cellsFollowWrong : ChangeSpec := { name := "cellsFollow", fn := fun _ => fun
  | [d1, d2, d3] => { results := [.lit (.bool false)], args := [d1, d2, d3] }
  | _ => none }
def CellsFollowWrongFalsely : Prop := cellsFollowRow.holds Try.pinned (OpenSpec.ofChange cellsFollowWrong)

/-- 'dredgelaw04.CellsTwice': WHATEVER THE INPUT: true; the input reads as it did. -/
def cellsTwiceSpec : ChangeSpec := { name := "cellsTwice", fn := fun _ => fun
  | [d1, d2, d3, d4] => { results := [.lit (.bool true)], args := [d1, d2, d3, d4] }
  | _ => none }
def cellsTwiceRow : OpenClaim := { program := "ythlefnajbfkdbaa", sum := "a4c173d81cc36df5e121844ecaea5e756f0a766c88b0e9adcbd8eb000a2c0be7", func := "dredge/dredgelaw04.CellsTwice", spec := "cellsTwice", apart := false }
def CellsTwiceSaid : Prop := cellsTwiceRow.holds Try.pinned (OpenSpec.ofChange cellsTwiceSpec)

/-- ITS FALSE NEIGHBOUR: 'it returns false'. Refute it at one input. -/
def cellsTwiceWrong : ChangeSpec := { name := "cellsTwice", fn := fun _ => fun
  | [d1, d2, d3, d4] => { results := [.lit (.bool false)], args := [d1, d2, d3, d4] }
  | _ => none }
def CellsTwiceWrongFalsely : Prop := cellsTwiceRow.holds Try.pinned (OpenSpec.ofChange cellsTwiceWrong)

/-- 'dredgelaw04.PilePlays': WHATEVER THE INPUT: true; the input reads as it did. -/
def pilePlaysSpec : ChangeSpec := { name := "pilePlays", fn := fun _ => fun
  | [d] => { results := [.lit (.bool true)], args := [d] }
  | _ => none }
def pilePlaysRow : OpenClaim := { program := "ythlefnajbfkdbaa", sum := "a4c173d81cc36df5e121844ecaea5e756f0a766c88b0e9adcbd8eb000a2c0be7", func := "dredge/dredgelaw04.PilePlays", spec := "pilePlays", unfollowed := true, recurses := true, apart := false }
def PilePlaysSaid : Prop := pilePlaysRow.holds Try.pinned (OpenSpec.ofChange pilePlaysSpec)

/-- ITS FALSE NEIGHBOUR: 'it returns false'. Refute it at one input. -/
def pilePlaysWrong : ChangeSpec := { name := "pilePlays", fn := fun _ => fun
  | [d] => { results := [.lit (.bool false)], args := [d] }
  | _ => none }
def PilePlaysWrongFalsely : Prop := pilePlaysRow.holds Try.pinned (OpenSpec.ofChange pilePlaysWrong)

/-- 'dredgelaw04.PileFollows': WHATEVER THE INPUT: true; the input reads as it did. -/
def pileFollowsSpec : ChangeSpec := { name := "pileFollows", fn := fun _ => fun
  | [d1, d2] => { results := [.lit (.bool true)], args := [d1, d2] }
  | _ => none }
def pileFollowsRow : OpenClaim := { program := "ythlefnajbfkdbaa", sum := "a4c173d81cc36df5e121844ecaea5e756f0a766c88b0e9adcbd8eb000a2c0be7", func := "dredge/dredgelaw04.PileFollows", spec := "pileFollows", unfollowed := true, recurses := true, apart := false }
def PileFollowsSaid : Prop := pileFollowsRow.holds Try.pinned (OpenSpec.ofChange pileFollowsSpec)

/-- ITS FALSE NEIGHBOUR: 'it returns false'. Refute it at one input. -/
def pileFollowsWrong : ChangeSpec := { name := "pileFollows", fn := fun _ => fun
  | [d1, d2] => { results := [.lit (.bool false)], args := [d1, d2] }
  | _ => none }
def PileFollowsWrongFalsely : Prop := pileFollowsRow.holds Try.pinned (OpenSpec.ofChange pileFollowsWrong)

/- THE SECOND FORM. 'bulk': how many values and letters a reading holds, each counted each time it is reached (what is shared counts as often as it is met; a slice's spare places count too). A statement '..UptoSaid' is the law's where the arguments, and the package variables that the reading takes, are together of bulk at most 1048576: NARROWER than '..Said'. Prove '..Said' where nothing that the law and all that it calls make is longer than what came in: it says more and counts as full. Else prove '..UptoSaid'. A law counts once. -/
mutual
def uptoBulk {H : Type} : DataW H → Nat
  | .lit (.string bytes) => bytes.length + 1
  | .lit _ => 1
  | .nil => 1
  | .ptr d => uptoBulk d + 1
  | .slice elems spare => uptoBulkAll elems + uptoBulkAll spare + 1
  | .agg parts => uptoBulkAll parts + 1
  | .iface _ d => uptoBulk d + 1
  | .map entries => uptoBulkEntries entries + 1
  | .held _ => 1
def uptoBulkAll {H : Type} : List (DataW H) → Nat
  | [] => 0
  | d :: r => uptoBulk d + uptoBulkAll r
def uptoBulkEntries {H : Type} : List (Lit × DataW H) → Nat
  | [] => 0
  | x :: r => uptoBulkEntry x + uptoBulkEntries r
def uptoBulkEntry {H : Type} : Lit × DataW H → Nat
  | (.string bytes, d) => bytes.length + uptoBulk d + 1
  | (_, d) => uptoBulk d + 1
 end
def uptoSmall : (H : Type) → List (DataW H) → Bool := fun _ ds => decide (uptoBulkAll ds ≤ 1048576)
def OpenSpec.upto (s : _root_.Go.ChangeSpec) : _root_.Go.OpenSpec := { _root_.Go.OpenSpec.ofChange s with cond := some uptoSmall }

/-- 'dredgelaw04.PileCuts', WHERE WHAT IT READS IS OF BULK AT MOST 1048576: true; the input reads as it did. -/
def pileCutsUptoRow : OpenClaim := { program := "ythlefnajbfkdbaa", sum := "a4c173d81cc36df5e121844ecaea5e756f0a766c88b0e9adcbd8eb000a2c0be7", func := "dredge/dredgelaw04.PileCuts", spec := "pileCuts", apart := false, narrowed := true }
def PileCutsUptoSaid : Prop := pileCutsUptoRow.holds Try.pinned (OpenSpec.upto pileCutsSpec)

/-- 'dredgelaw04.CellsPlay', WHERE WHAT IT READS IS OF BULK AT MOST 1048576: true; the input reads as it did. -/
def cellsPlayUptoRow : OpenClaim := { program := "ythlefnajbfkdbaa", sum := "a4c173d81cc36df5e121844ecaea5e756f0a766c88b0e9adcbd8eb000a2c0be7", func := "dredge/dredgelaw04.CellsPlay", spec := "cellsPlay", apart := false, narrowed := true }
def CellsPlayUptoSaid : Prop := cellsPlayUptoRow.holds Try.pinned (OpenSpec.upto cellsPlaySpec)

/-- 'dredgelaw04.CellsFollow', WHERE WHAT IT READS IS OF BULK AT MOST 1048576: true; the input reads as it did. -/
def cellsFollowUptoRow : OpenClaim := { program := "ythlefnajbfkdbaa", sum := "a4c173d81cc36df5e121844ecaea5e756f0a766c88b0e9adcbd8eb000a2c0be7", func := "dredge/dredgelaw04.CellsFollow", spec := "cellsFollow", apart := false, narrowed := true }
def CellsFollowUptoSaid : Prop := cellsFollowUptoRow.holds Try.pinned (OpenSpec.upto cellsFollowSpec)

/-- 'dredgelaw04.CellsTwice', WHERE WHAT IT READS IS OF BULK AT MOST 1048576: true; the input reads as it did. -/
def cellsTwiceUptoRow : OpenClaim := { program := "ythlefnajbfkdbaa", sum := "a4c173d81cc36df5e121844ecaea5e756f0a766c88b0e9adcbd8eb000a2c0be7", func := "dredge/dredgelaw04.CellsTwice", spec := "cellsTwice", apart := false, narrowed := true }
def CellsTwiceUptoSaid : Prop := cellsTwiceUptoRow.holds Try.pinned (OpenSpec.upto cellsTwiceSpec)

/-- 'dredgelaw04.PilePlays', WHERE WHAT IT READS IS OF BULK AT MOST 1048576: true; the input reads as it did. -/
def pilePlaysUptoRow : OpenClaim := { program := "ythlefnajbfkdbaa", sum := "a4c173d81cc36df5e121844ecaea5e756f0a766c88b0e9adcbd8eb000a2c0be7", func := "dredge/dredgelaw04.PilePlays", spec := "pilePlays", unfollowed := true, recurses := true, apart := false, narrowed := true }
def PilePlaysUptoSaid : Prop := pilePlaysUptoRow.holds Try.pinned (OpenSpec.upto pilePlaysSpec)

/-- 'dredgelaw04.PileFollows', WHERE WHAT IT READS IS OF BULK AT MOST 1048576: true; the input reads as it did. -/
def pileFollowsUptoRow : OpenClaim := { program := "ythlefnajbfkdbaa", sum := "a4c173d81cc36df5e121844ecaea5e756f0a766c88b0e9adcbd8eb000a2c0be7", func := "dredge/dredgelaw04.PileFollows", spec := "pileFollows", unfollowed := true, recurses := true, apart := false, narrowed := true }
def PileFollowsUptoSaid : Prop := pileFollowsUptoRow.holds Try.pinned (OpenSpec.upto pileFollowsSpec)

end Rows
end Go.Proofs.Ythlefnajbfkdbaa
