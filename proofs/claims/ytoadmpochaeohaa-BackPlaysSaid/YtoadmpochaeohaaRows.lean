/-
  No cell of these rows narrows 'for every input' (looked for: loops, veiled, ifaces, maps, wideKeys, modest, calm, conditions, laid).
  DERIVED. THE GIVEN ROWS OF THIS SEAT. 8 by the template 'for every input the law returns true; each argument reads behind the call as it read before'; 0 by the template 'total and deterministic' (their statements: YtoadmpochaeohaaTotals.lean).
  GIVEN WITH THE SEED: the statements are not yours to turn. If you find one false, say at which input.
  Laid BY PROGRAM, IN A SANDBOX (cutbox-rows.mjs): the forced cells as the released guide's own fill.sh prints them over the translation e282df53c0e4326c… (all of the seat's roots in one cut). By AI agents, Wed Nov 11 2026. No macro, syntax, notation, axiom, sorry.
-/
import Derived.Test.YtoadmpochaeohaaChecked
import GoSem.Claim
import GoSem.ClaimJoined
import GoSem.ClaimMapViews
import Derived.JoinedTies
import Derived.KernelRfl
namespace Go.Proofs.Ytoadmpochaeohaa
/- THE CELL 'sum', in the pinned program and in every row, IS THE sha256 OF THE DUMP (.gsa) THAT YtoadmpochaeohaaProg.lean LOADS. Nothing in Lean hashes anything: it is a label: what it is worth is what the hold of that sum in a sandbox is worth. -/
noncomputable def Try.pinned : Pinned := { name := "ytoadmpochaeohaa", sum := "e282df53c0e4326cd5d56b9b044bd02adb7229e99469ad30c98416af8fe3df93", checked := Try.checked }
namespace Rows
def none {H : Type} : Left H := { results := [], args := [] }

/-- 'dredgelaw20.BackNew': WHATEVER THE INPUT: true; the input reads as it did. -/
def backNewSpec : ChangeSpec := { name := "backNew", fn := fun _ => fun
  | [d1, d2] => { results := [.lit (.bool true)], args := [d1, d2] }
  | _ => none }
def backNewRow : OpenClaim := { program := "ytoadmpochaeohaa", sum := "e282df53c0e4326cd5d56b9b044bd02adb7229e99469ad30c98416af8fe3df93", func := "dredge/dredgelaw20.BackNew", spec := "backNew", unfollowed := true, recurses := true, apart := false }
def BackNewSaid : Prop := backNewRow.holds Try.pinned (OpenSpec.ofChange backNewSpec)

/-- ITS FALSE NEIGHBOUR: 'it returns false'. Refute it at one input. -/
def backNewWrong : ChangeSpec := { name := "backNew", fn := fun _ => fun
  | [d1, d2] => { results := [.lit (.bool false)], args := [d1, d2] }
  | _ => none }
def BackNewWrongFalsely : Prop := backNewRow.holds Try.pinned (OpenSpec.ofChange backNewWrong)

/-- 'dredgelaw20.BackPlays': WHATEVER THE INPUT: true; the input reads as it did. -/
def backPlaysSpec : ChangeSpec := { name := "backPlays", fn := fun _ => fun
  | [d1, d2, d3] => { results := [.lit (.bool true)], args := [d1, d2, d3] }
  | _ => none }
def backPlaysRow : OpenClaim := { program := "ytoadmpochaeohaa", sum := "e282df53c0e4326cd5d56b9b044bd02adb7229e99469ad30c98416af8fe3df93", func := "dredge/dredgelaw20.BackPlays", spec := "backPlays", unfollowed := true, recurses := true, apart := false }
def BackPlaysSaid : Prop := backPlaysRow.holds Try.pinned (OpenSpec.ofChange backPlaysSpec)

/-- ITS FALSE NEIGHBOUR: 'it returns false'. Refute it at one input. -/
def backPlaysWrong : ChangeSpec := { name := "backPlays", fn := fun _ => fun
  | [d1, d2, d3] => { results := [.lit (.bool false)], args := [d1, d2, d3] }
  | _ => none }
def BackPlaysWrongFalsely : Prop := backPlaysRow.holds Try.pinned (OpenSpec.ofChange backPlaysWrong)

/-- 'dredgelaw20.BackAlike': WHATEVER THE INPUT: true; the input reads as it did. -/
def backAlikeSpec : ChangeSpec := { name := "backAlike", fn := fun _ => fun
  | [d1, d2] => { results := [.lit (.bool true)], args := [d1, d2] }
  | _ => none }
def backAlikeRow : OpenClaim := { program := "ytoadmpochaeohaa", sum := "e282df53c0e4326cd5d56b9b044bd02adb7229e99469ad30c98416af8fe3df93", func := "dredge/dredgelaw20.BackAlike", spec := "backAlike", unfollowed := true, recurses := true, apart := false }
def BackAlikeSaid : Prop := backAlikeRow.holds Try.pinned (OpenSpec.ofChange backAlikeSpec)

/-- ITS FALSE NEIGHBOUR: 'it returns false'. Refute it at one input. -/
def backAlikeWrong : ChangeSpec := { name := "backAlike", fn := fun _ => fun
  | [d1, d2] => { results := [.lit (.bool false)], args := [d1, d2] }
  | _ => none }
def BackAlikeWrongFalsely : Prop := backAlikeRow.holds Try.pinned (OpenSpec.ofChange backAlikeWrong)

/-- 'dredgelaw20.BackTimes': WHATEVER THE INPUT: true; the input reads as it did. -/
def backTimesSpec : ChangeSpec := { name := "backTimes", fn := fun _ => fun
  | [d1, d2, d3, d4] => { results := [.lit (.bool true)], args := [d1, d2, d3, d4] }
  | _ => none }
def backTimesRow : OpenClaim := { program := "ytoadmpochaeohaa", sum := "e282df53c0e4326cd5d56b9b044bd02adb7229e99469ad30c98416af8fe3df93", func := "dredge/dredgelaw20.BackTimes", spec := "backTimes", unfollowed := true, recurses := true, apart := false }
def BackTimesSaid : Prop := backTimesRow.holds Try.pinned (OpenSpec.ofChange backTimesSpec)

/-- ITS FALSE NEIGHBOUR: 'it returns false'. Refute it at one input. -/
def backTimesWrong : ChangeSpec := { name := "backTimes", fn := fun _ => fun
  | [d1, d2, d3, d4] => { results := [.lit (.bool false)], args := [d1, d2, d3, d4] }
  | _ => none }
def BackTimesWrongFalsely : Prop := backTimesRow.holds Try.pinned (OpenSpec.ofChange backTimesWrong)

/-- 'dredgelaw20.BackTwice': WHATEVER THE INPUT: true; the input reads as it did. -/
def backTwiceSpec : ChangeSpec := { name := "backTwice", fn := fun _ => fun
  | [d1, d2, d3] => { results := [.lit (.bool true)], args := [d1, d2, d3] }
  | _ => none }
def backTwiceRow : OpenClaim := { program := "ytoadmpochaeohaa", sum := "e282df53c0e4326cd5d56b9b044bd02adb7229e99469ad30c98416af8fe3df93", func := "dredge/dredgelaw20.BackTwice", spec := "backTwice", unfollowed := true, recurses := true, apart := false }
def BackTwiceSaid : Prop := backTwiceRow.holds Try.pinned (OpenSpec.ofChange backTwiceSpec)

/-- ITS FALSE NEIGHBOUR: 'it returns false'. Refute it at one input. -/
def backTwiceWrong : ChangeSpec := { name := "backTwice", fn := fun _ => fun
  | [d1, d2, d3] => { results := [.lit (.bool false)], args := [d1, d2, d3] }
  | _ => none }
def BackTwiceWrongFalsely : Prop := backTwiceRow.holds Try.pinned (OpenSpec.ofChange backTwiceWrong)

/-- 'dredgelaw20.BackNested': WHATEVER THE INPUT: true; the input reads as it did. -/
def backNestedSpec : ChangeSpec := { name := "backNested", fn := fun _ => fun
  | [d1, d2] => { results := [.lit (.bool true)], args := [d1, d2] }
  | _ => none }
def backNestedRow : OpenClaim := { program := "ytoadmpochaeohaa", sum := "e282df53c0e4326cd5d56b9b044bd02adb7229e99469ad30c98416af8fe3df93", func := "dredge/dredgelaw20.BackNested", spec := "backNested", unfollowed := true, recurses := true, apart := false }
def BackNestedSaid : Prop := backNestedRow.holds Try.pinned (OpenSpec.ofChange backNestedSpec)

/-- ITS FALSE NEIGHBOUR: 'it returns false'. Refute it at one input. -/
def backNestedWrong : ChangeSpec := { name := "backNested", fn := fun _ => fun
  | [d1, d2] => { results := [.lit (.bool false)], args := [d1, d2] }
  | _ => none }
def BackNestedWrongFalsely : Prop := backNestedRow.holds Try.pinned (OpenSpec.ofChange backNestedWrong)

/-- 'dredgelaw20.BackRounds': WHATEVER THE INPUT: true; the input reads as it did. -/
def backRoundsSpec : ChangeSpec := { name := "backRounds", fn := fun _ => fun
  | [d1, d2, d3] => { results := [.lit (.bool true)], args := [d1, d2, d3] }
  | _ => none }
def backRoundsRow : OpenClaim := { program := "ytoadmpochaeohaa", sum := "e282df53c0e4326cd5d56b9b044bd02adb7229e99469ad30c98416af8fe3df93", func := "dredge/dredgelaw20.BackRounds", spec := "backRounds", unfollowed := true, recurses := true, apart := false }
def BackRoundsSaid : Prop := backRoundsRow.holds Try.pinned (OpenSpec.ofChange backRoundsSpec)

/-- ITS FALSE NEIGHBOUR: 'it returns false'. Refute it at one input. -/
def backRoundsWrong : ChangeSpec := { name := "backRounds", fn := fun _ => fun
  | [d1, d2, d3] => { results := [.lit (.bool false)], args := [d1, d2, d3] }
  | _ => none }
def BackRoundsWrongFalsely : Prop := backRoundsRow.holds Try.pinned (OpenSpec.ofChange backRoundsWrong)

/-- 'dredgelaw20.BackFree': WHATEVER THE INPUT: true; the input reads as it did. -/
def backFreeSpec : ChangeSpec := { name := "backFree", fn := fun _ => fun
  | [d1, d2, d3] => { results := [.lit (.bool true)], args := [d1, d2, d3] }
  | _ => none }
def backFreeRow : OpenClaim := { program := "ytoadmpochaeohaa", sum := "e282df53c0e4326cd5d56b9b044bd02adb7229e99469ad30c98416af8fe3df93", func := "dredge/dredgelaw20.BackFree", spec := "backFree", unfollowed := true, recurses := true, apart := false }
def BackFreeSaid : Prop := backFreeRow.holds Try.pinned (OpenSpec.ofChange backFreeSpec)

/-- ITS FALSE NEIGHBOUR: 'it returns false'. Refute it at one input. -/
def backFreeWrong : ChangeSpec := { name := "backFree", fn := fun _ => fun
  | [d1, d2, d3] => { results := [.lit (.bool false)], args := [d1, d2, d3] }
  | _ => none }
def BackFreeWrongFalsely : Prop := backFreeRow.holds Try.pinned (OpenSpec.ofChange backFreeWrong)

/- THE SECOND FORM. 'bulk': how many values and letters a reading holds, each counted each time it is reached (what is shared counts as often as it is met; a slice's spare places count too). A statement '..UptoSaid' is the law's where the arguments, and the package variables that the reading takes, are together of bulk at most 1048576: NARROWER than '..Said'. Prove '..Said' where nothing that the law and all that it calls make is longer than what came in: it says more and counts as full. Else prove '..UptoSaid'. A law counts once. -/
mutual
def uptoBulk {H : Type} : DataW H → Nat
  | .lit (.string bytes) => bytes.length + 1
  | .lit _ => 1
  | .nil => 1
  | .ptr d => uptoBulk d + 1
  | .slice elems spare => uptoBulkAll elems + uptoBulkAll spare + 1
  | .agg parts => uptoBulkAll parts + 1
  | .iface _ d => uptoBulk d + 1
  | .map entries => uptoBulkEntries entries + 1
  | .held _ => 1
def uptoBulkAll {H : Type} : List (DataW H) → Nat
  | [] => 0
  | d :: r => uptoBulk d + uptoBulkAll r
def uptoBulkEntries {H : Type} : List (Lit × DataW H) → Nat
  | [] => 0
  | x :: r => uptoBulkEntry x + uptoBulkEntries r
def uptoBulkEntry {H : Type} : Lit × DataW H → Nat
  | (.string bytes, d) => bytes.length + uptoBulk d + 1
  | (_, d) => uptoBulk d + 1
 end
def uptoSmall : (H : Type) → List (DataW H) → Bool := fun _ ds => decide (uptoBulkAll ds ≤ 1048576)
def OpenSpec.upto (s : _root_.Go.ChangeSpec) : _root_.Go.OpenSpec := { _root_.Go.OpenSpec.ofChange s with cond := some uptoSmall }

/-- 'dredgelaw20.BackNew', WHERE WHAT IT READS IS OF BULK AT MOST 1048576: true; the input reads as it did. -/
def backNewUptoRow : OpenClaim := { program := "ytoadmpochaeohaa", sum := "e282df53c0e4326cd5d56b9b044bd02adb7229e99469ad30c98416af8fe3df93", func := "dredge/dredgelaw20.BackNew", spec := "backNew", unfollowed := true, recurses := true, apart := false, narrowed := true }
def BackNewUptoSaid : Prop := backNewUptoRow.holds Try.pinned (OpenSpec.upto backNewSpec)

/-- 'dredgelaw20.BackPlays', WHERE WHAT IT READS IS OF BULK AT MOST 1048576: true; the input reads as it did. -/
def backPlaysUptoRow : OpenClaim := { program := "ytoadmpochaeohaa", sum := "e282df53c0e4326cd5d56b9b044bd02adb7229e99469ad30c98416af8fe3df93", func := "dredge/dredgelaw20.BackPlays", spec := "backPlays", unfollowed := true, recurses := true, apart := false, narrowed := true }
def BackPlaysUptoSaid : Prop := backPlaysUptoRow.holds Try.pinned (OpenSpec.upto backPlaysSpec)

/-- 'dredgelaw20.BackAlike', WHERE WHAT IT READS IS OF BULK AT MOST 1048576: true; the input reads as it did. -/
def backAlikeUptoRow : OpenClaim := { program := "ytoadmpochaeohaa", sum := "e282df53c0e4326cd5d56b9b044bd02adb7229e99469ad30c98416af8fe3df93", func := "dredge/dredgelaw20.BackAlike", spec := "backAlike", unfollowed := true, recurses := true, apart := false, narrowed := true }
def BackAlikeUptoSaid : Prop := backAlikeUptoRow.holds Try.pinned (OpenSpec.upto backAlikeSpec)

/-- 'dredgelaw20.BackTimes', WHERE WHAT IT READS IS OF BULK AT MOST 1048576: true; the input reads as it did. -/
def backTimesUptoRow : OpenClaim := { program := "ytoadmpochaeohaa", sum := "e282df53c0e4326cd5d56b9b044bd02adb7229e99469ad30c98416af8fe3df93", func := "dredge/dredgelaw20.BackTimes", spec := "backTimes", unfollowed := true, recurses := true, apart := false, narrowed := true }
def BackTimesUptoSaid : Prop := backTimesUptoRow.holds Try.pinned (OpenSpec.upto backTimesSpec)

/-- 'dredgelaw20.BackTwice', WHERE WHAT IT READS IS OF BULK AT MOST 1048576: true; the input reads as it did. -/
def backTwiceUptoRow : OpenClaim := { program := "ytoadmpochaeohaa", sum := "e282df53c0e4326cd5d56b9b044bd02adb7229e99469ad30c98416af8fe3df93", func := "dredge/dredgelaw20.BackTwice", spec := "backTwice", unfollowed := true, recurses := true, apart := false, narrowed := true }
def BackTwiceUptoSaid : Prop := backTwiceUptoRow.holds Try.pinned (OpenSpec.upto backTwiceSpec)

/-- 'dredgelaw20.BackNested', WHERE WHAT IT READS IS OF BULK AT MOST 1048576: true; the input reads as it did. -/
def backNestedUptoRow : OpenClaim := { program := "ytoadmpochaeohaa", sum := "e282df53c0e4326cd5d56b9b044bd02adb7229e99469ad30c98416af8fe3df93", func := "dredge/dredgelaw20.BackNested", spec := "backNested", unfollowed := true, recurses := true, apart := false, narrowed := true }
def BackNestedUptoSaid : Prop := backNestedUptoRow.holds Try.pinned (OpenSpec.upto backNestedSpec)

/-- 'dredgelaw20.BackRounds', WHERE WHAT IT READS IS OF BULK AT MOST 1048576: true; the input reads as it did. -/
def backRoundsUptoRow : OpenClaim := { program := "ytoadmpochaeohaa", sum := "e282df53c0e4326cd5d56b9b044bd02adb7229e99469ad30c98416af8fe3df93", func := "dredge/dredgelaw20.BackRounds", spec := "backRounds", unfollowed := true, recurses := true, apart := false, narrowed := true }
def BackRoundsUptoSaid : Prop := backRoundsUptoRow.holds Try.pinned (OpenSpec.upto backRoundsSpec)

/-- 'dredgelaw20.BackFree', WHERE WHAT IT READS IS OF BULK AT MOST 1048576: true; the input reads as it did. -/
def backFreeUptoRow : OpenClaim := { program := "ytoadmpochaeohaa", sum := "e282df53c0e4326cd5d56b9b044bd02adb7229e99469ad30c98416af8fe3df93", func := "dredge/dredgelaw20.BackFree", spec := "backFree", unfollowed := true, recurses := true, apart := false, narrowed := true }
def BackFreeUptoSaid : Prop := backFreeUptoRow.holds Try.pinned (OpenSpec.upto backFreeSpec)

end Rows
end Go.Proofs.Ytoadmpochaeohaa
