/-
  Layer 20 in plain Lean: what a machine by continuations does.
-/
import Derived.Test.YtoadmpochaeohaaNSpec
set_option linter.unusedVariables false
set_option linter.unusedSimpArgs false
namespace Go.Proofs.Ytoadmpochaeohaa
open Go.RowKit

/-- What a group has: where it began last, its part; -1: nothing. -/
structure Pt where
  began : Int
  frm : Int
  til : Int
deriving DecidableEq
/-- What a counter has had. -/
structure Tn where
  many : Int
  began : Int
deriving DecidableEq
structure Cf where
  pc : Nat
  at_ : Nat
  parts : List Pt
  turns : List Tn
deriving DecidableEq
abbrev Key := List UInt8
inductive Fr where
  | look (c : Cf)
  | leave (k : Key)
/-- What a group has that still matters. -/
structure Lv where
  began : Bool
  part : Bool
deriving DecidableEq
/-- A machine. -/
structure Mc where
  ins : List Ins
  fold : Bool
  plain : Bool
  slot : List Int
  most : List Int
  live : List (List Lv)

def inB (i : Ins) (c : UInt8) : Bool :=
  bits BinOp.and IntKind.u64 ((if c.toNat / 64 = 0 then i.s0 else if c.toNat / 64 = 1 then i.s1 else if c.toNat / 64 = 2 then i.s2 else i.s3) / 2 ^ (c.toNat % 64)) 1 == 1

/-- Where an instruction leads. -/
def leadsS (i : Ins) (k : Nat) : List Nat :=
  if i.op = 2 ∨ i.op = 10 then [i.x.toNat, i.y.toNat] else if i.op = 3 then [i.x.toNat] else if i.op = 11 then [] else [k + 1]
/-- The places of the groups that are referred to. -/
def slotP : List Ins → List Int → Int → List Int × Int
  | [], s, n => (s, n)
  | i :: l, s, n => if i.op = 8 ∧ s.getD i.n.toNat 0 < 0 then slotP l (s.set i.n.toNat n) (n + 1) else slotP l s n
def mostP : List Ins → List Int → List Int
  | [], m => m
  | i :: l, m => if i.op = 10 then mostP l (m.set i.n.toNat (max (max (m.getD i.n.toNat 0) i.mx) (i.mn + 1))) else mostP l m
def lv (live : List (List Lv)) (k g : Nat) : Lv := (live.getD k []).getD g ⟨false, false⟩
/-- What matters at an instruction, of one group, if that is known which matters where it leads. -/
def markOne (slot : List Int) (live : List (List Lv)) (i : Ins) (k g : Nat) : Lv :=
  let l : Lv := (leadsS i k).foldl (fun l t => ⟨l.began || (lv live t g).began, l.part || (lv live t g).part⟩) ⟨false, false⟩
  if (i.op = 6 ∨ i.op = 7 ∨ i.op = 8) ∧ slot.getD i.n.toNat (-1) = g then (if i.op = 6 then ⟨false, l.part⟩ else if i.op = 7 then ⟨true, false⟩ else ⟨l.began, true⟩) else l
def setLv (live : List (List Lv)) (k g : Nat) (l : Lv) : List (List Lv) := live.set k ((live.getD k []).set g l)

def put4 (n : Int) : List UInt8 := [UInt8.ofNat (n % 256).toNat, UInt8.ofNat (n / 256 % 256).toNat, UInt8.ofNat (n / 65536 % 256).toNat, UInt8.ofNat (n / 16777216 % 256).toNat]
def keyPt (l : Lv) (p : Pt) : List UInt8 := put4 (if l.began then p.began else -1) ++ put4 (if l.part then p.frm else -1) ++ put4 (if l.part then p.til else -1)
def keyPs (ls : List Lv) : Nat → List Pt → List UInt8
  | _, [] => []
  | g, p :: ps => keyPt (ls.getD g ⟨false, false⟩) p ++ keyPs ls (g + 1) ps
def keyTn (at_ : Nat) (t : Tn) : List UInt8 := put4 (2 * t.many + if t.began = at_ then 1 else 0)
/-- What a configuration is told apart by. -/
def keyS (m : Mc) (c : Cf) : Key := put4 c.pc ++ put4 c.at_ ++ keyPs (m.live.getD c.pc []) 0 c.parts ++ c.turns.flatMap (keyTn c.at_)

def lowS (c : UInt8) : UInt8 := if 65 ≤ c ∧ c ≤ 90 then c + 32 else c
def sameS (fold : Bool) (line : List UInt8) (a b : Nat) : Nat → Bool
  | 0 => true
  | n + 1 => sameS fold line a b n && (match line[a + n]?, line[b + n]? with | some x, some y => x == y || (fold && lowS x == lowS y) | _, _ => false)
/-- How long what a group had is, if it stands here, too. -/
def againS (m : Mc) (line : List UInt8) (c : Cf) (g : Nat) : Option Nat :=
  match c.parts[g]? with
  | none => none
  | some p => if p.frm < 0 ∨ (line.length : Int) - c.at_ < p.til - p.frm then none
    else if sameS m.fold line p.frm.toNat c.at_ (p.til - p.frm).toNat then some (p.til - p.frm).toNat else none
def bracketS (m : Mc) (c : Cf) (i : Ins) : Cf :=
  let g := m.slot.getD i.n.toNat (-1)
  if g < 0 then c else
    let p := c.parts.getD g.toNat ⟨-1, -1, -1⟩
    if i.op = 6 then { c with parts := c.parts.set g.toNat { p with began := c.at_ } }
    else { c with parts := c.parts.set g.toNat ⟨p.began, if p.began < 0 then (c.at_ : Int) else p.began, c.at_⟩ }
def countS (c : Cf) (k : Nat) (t : Tn) : Cf := { c with turns := c.turns.set k t }
/-- Where a configuration leads, what is looked at last first. -/
def onS (m : Mc) (line : List UInt8) (c : Cf) : List Cf :=
  match m.ins[c.pc]? with
  | none => []
  | some i =>
    if i.op = 1 then (match line[c.at_]? with | some x => if inB i x then [{ c with at_ := c.at_ + 1, pc := c.pc + 1 }] else [] | none => [])
    else if i.op = 2 then [{ c with pc := i.y.toNat }, { c with pc := i.x.toNat }]
    else if i.op = 3 then [{ c with pc := i.x.toNat }]
    else if i.op = 4 then (if c.at_ = 0 then [{ c with pc := c.pc + 1 }] else [])
    else if i.op = 5 then (if c.at_ = line.length then [{ c with pc := c.pc + 1 }] else [])
    else if i.op = 6 ∨ i.op = 7 then [{ bracketS m c i with pc := c.pc + 1 }]
    else if i.op = 8 then (match againS m line c (m.slot.getD i.n.toNat (-1)).toNat with | some n => [{ c with at_ := c.at_ + n, pc := c.pc + 1 }] | none => [])
    else if i.op = 9 then [{ countS c i.n.toNat ⟨0, -1⟩ with pc := c.pc + 1 }]
    else if i.op = 10 then
      let t := c.turns.getD i.n.toNat ⟨0, -1⟩
      if i.mn < t.many ∧ t.began = c.at_ then [] else
        (if i.mn ≤ t.many then [{ c with pc := i.y.toNat }] else []) ++
        (if i.mx = -1 ∨ t.many < i.mx then [{ countS c i.n.toNat ⟨min (t.many + 1) (m.most.getD i.n.toNat 0), c.at_⟩ with pc := i.x.toNat }] else [])
    else []
def isHit (m : Mc) (c : Cf) : Bool := match m.ins[c.pc]? with | some i => i.op == 11 | none => false
/-- What a run knows. -/
structure Rn where
  seen : List Key
  steps : Nat
  kept : Nat
  best : Option Nat
def hitS (m : Mc) (c : Cf) (b : Option Nat) : Option Nat :=
  if isHit m c then (match b with | none => some c.at_ | some e => if e < c.at_ then some c.at_ else some e) else b
/-- All ways, so many looks at most; none: it has not come to its end. -/
def runS (m : Mc) (line : List UInt8) : Nat → List Fr → Rn → Option Rn
  | _, [], r => some r
  | 0, _ :: _, _ => none
  | f + 1, .leave k :: p, r => runS m line f p { r with seen := r.seen.erase k }
  | f + 1, .look c :: p, r =>
    if keyS m c ∈ r.seen then runS m line f p { r with steps := r.steps + 1 }
    else runS m line f ((onS m line c).reverse.map .look ++ (if m.plain then .leave (keyS m c) :: p else p))
      ⟨keyS m c :: r.seen, r.steps + 1, if m.plain then r.kept else max r.kept (r.seen.length + 1), hitS m c r.best⟩
/-- Where a run begins. -/
def startS (m : Mc) (at_ : Nat) : Cf := ⟨0, at_, (m.slot.filter (0 ≤ ·)).map fun _ => ⟨-1, -1, -1⟩, m.most.map fun _ => ⟨0, -1⟩⟩
end Go.Proofs.Ytoadmpochaeohaa
