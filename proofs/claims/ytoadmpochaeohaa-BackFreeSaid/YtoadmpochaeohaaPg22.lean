/-
  Layer 20: reference 16's Times and Back, walked.
-/
import Derived.Test.YtoadmpochaeohaaPg19
import Derived.Test.YtoadmpochaeohaaPg21
section
set_option linter.unusedVariables false
set_option linter.unusedSimpArgs false
set_option maxRecDepth 100000
namespace Go.Proofs.Ytoadmpochaeohaa
open Go.RowKit

/-- Which groups are referred to, how many turns of a counter tell something, which counters turn. -/
def refsN (ins : List Ins) (gr : Nat) : List Bool := ins.foldl (fun l i => if i.op = 8 then l.set i.n.toNat true else l) (List.replicate gr false)
theorem refs_len (ins : List Ins) (gr : Nat) : (refsN ins gr).length = gr := by
  unfold refsN
  have : ∀ (l : List Ins) (s : List Bool), (l.foldl (fun l i => if i.op = 8 then l.set i.n.toNat true else l) s).length = s.length := by
    intro l
    induction l with
    | nil => intro s; rfl
    | cons i l ih => intro s; rw [List.foldl_cons, ih]; split <;> simp
  rw [this, List.length_replicate]
def BV (b : Bool) : Value := .bool b
theorem info4 : (Try.prog.info? 4).map (fun i => (i.zero, i.size, i.bytes)) = some (some (.bool false), 1, 1) := by kernel_rfl
theorem mk81 (n : Nat) (hn : n ≤ 1048576) (w : World) : (Instr.makeSlice 81 (.int .i64 n) (.int .i64 n)).run Try.prog w = .ok (.slice (some ⟨w.heap.size, 0, none⟩) n n) (w.alloc (.cells (List.replicate n (.bool false)).toArray 4)) := by
  rw [← made1]
  exact run_make_row' 81 4 (.bool false) 1 Try.underlying81 info4 rfl .i64 .i64 n (by omega) (by omega) w
end Go.Proofs.Ytoadmpochaeohaa
end

section
set_option linter.unusedVariables false
set_option linter.unusedSimpArgs false
set_option maxRecDepth 100000
namespace Go.Proofs.Ytoadmpochaeohaa
open Go.RowKit

/-- OpTurn. -/
def turnR (i : Ins) (c : RC) : List RC :=
  let k := c.turns.getD i.n.toNat 0
  if i.mn < k ∧ c.last.getD i.n.toNat (-1) = c.at_ then [] else
    (if i.mn ≤ k then [{ c with pc := i.y.toNat }] else []) ++
    (if i.mx = -1 ∨ k < i.mx then [{ c with pc := i.x.toNat, turns := c.turns.set i.n.toNat (k + 1), last := c.last.set i.n.toNat c.at_ }] else [])
/-- Where a configuration leads. -/
def nextR (ins : List Ins) (fo : Bool) (L : List UInt8) (refs : List Bool) (c : RC) : List RC :=
  match ins[c.pc]? with
  | none => []
  | some i =>
    if i.op = 1 then (match L[c.at_]? with | some x => if inB i x then [{ c with pc := c.pc + 1, at_ := c.at_ + 1 }] else [] | none => [])
    else if i.op = 2 then [{ c with pc := i.y.toNat }, { c with pc := i.x.toNat }]
    else if i.op = 3 then [{ c with pc := i.x.toNat }]
    else if i.op = 4 then (if c.at_ = 0 then [{ c with pc := c.pc + 1 }] else [])
    else if i.op = 5 then (if c.at_ = L.length then [{ c with pc := c.pc + 1 }] else [])
    else if i.op = 6 then (if refs.getD i.n.toNat false then [{ c with pc := c.pc + 1, began := c.began.set i.n.toNat c.at_ }] else [{ c with pc := c.pc + 1 }])
    else if i.op = 7 then (if refs.getD i.n.toNat false then [{ c with pc := c.pc + 1, frm := c.frm.set i.n.toNat (if c.began.getD i.n.toNat (-1) < 0 then (c.at_ : Int) else c.began.getD i.n.toNat (-1)), til := c.til.set i.n.toNat c.at_ }] else [{ c with pc := c.pc + 1 }])
    else if i.op = 8 then
      let f := c.frm.getD i.n.toNat (-1)
      let n := c.til.getD i.n.toNat (-1) - f
      if f < 0 ∨ (L.length : Int) - c.at_ < n then [] else if sameS fo L f.toNat c.at_ n.toNat then [{ c with pc := c.pc + 1, at_ := c.at_ + n.toNat }] else []
    else if i.op = 9 then [{ c with pc := c.pc + 1, turns := c.turns.set i.n.toNat 0, last := c.last.set i.n.toNat (-1) }]
    else if i.op = 10 then turnR i c
    else []
/-- A player in memory. -/
structure PlM (w : World) (D : Nat → Prop) (bX : Nat) (A : Option Addr) (n cp gr co : Nat) (fo : Bool) (ins : List Ins) (line : ByteArray) (bR : Nat) (sv mv : Value) : Prop where
  obj : Blk w bX [.slice A n cp, .int .i64 gr, .int .i64 co, .bool fo, .string line, .slice (some ⟨bR, 0, none⟩) gr gr, sv, mv] 111
  rd : Rd w D 10 A n cp (flatI ins)
  refs : Blk w bR ((refsN ins gr).map BV) 4
theorem PlM.frm {S : Nat → Prop} {w w' : World} {D : Nat → Prop} {bX : Nat} {A : Option Addr} {n cp gr co : Nat} {fo : Bool} {ins : List Ins} {line : ByteArray} {bR : Nat} {sv mv : Value} (h : PlM w D bX A n cp gr co fo ins line bR sv mv) (f : Frm S w w') (h1 : ¬ S bX) (h2 : ∀ k, D k → ¬ S k) (h3 : ¬ S bR) : PlM w' D bX A n cp gr co fo ins line bR sv mv :=
  ⟨h.obj.frm f h1, h.rd.frm f h2, h.refs.frm f h3⟩
/-- What a configuration must be. -/
structure RW (ins : List Ins) (N : Nat) (c : RC) : Prop where
  pc : c.pc < ins.length
  at_ : c.at_ ≤ N
  b : ∀ z ∈ c.began, -1 ≤ z ∧ z ≤ c.at_
  f : ∀ z ∈ c.frm, -1 ≤ z ∧ z ≤ c.at_
  t : ∀ z ∈ c.til, -1 ≤ z ∧ z ≤ c.at_
  ft : ∀ (k : Nat) (x y : Int), c.frm[k]? = some x → c.til[k]? = some y → 0 ≤ x → x ≤ y
  tn : ∀ z ∈ c.turns, 0 ≤ z ∧ z ≤ 1000000
  l : ∀ z ∈ c.last, -1 ≤ z ∧ z ≤ c.at_
def flatC (gr co : Nat) (ps : List (CA × RC)) : List Value := ps.flatMap fun p => p.1.cells gr co p.2.pc p.2.at_
/-- Some configurations in memory. -/
def CfL (w : World) (F D : Nat → Prop) (gr co : Nat) (v : Value) (cs : List RC) : Prop :=
  ∃ ps : List (CA × RC), ps.map (·.2) = cs ∧ Sl w F 114 7 v cs.length (flatC gr co ps) ∧ ∀ p ∈ ps, CRd w D p.1 gr co p.2
theorem CfL.nil {w : World} {F D : Nat → Prop} {gr co : Nat} : CfL w F D gr co (.slice none 0 0) [] := ⟨[], rfl, Sl.nil, fun p h => by cases h⟩
theorem CfL.one {w : World} {F D : Nat → Prop} {gr co b : Nat} {s : CA} {c : RC} (hb : Blk w b (s.cells gr co c.pc c.at_) 114) (hF : F b) (h : CRd w D s gr co c) : CfL w F D gr co (.slice (some ⟨b, 0, none⟩) 1 1) [c] :=
  ⟨[(s, c)], rfl, .at_ (rest := []) hF (by simpa [flatC] using hb) rfl rfl (Nat.le_refl _) (by simp only [maxLen]; omega), fun p hp => by rw [List.mem_singleton] at hp; subst hp; exact h⟩
theorem CfL.two {w : World} {F D : Nat → Prop} {gr co b : Nat} {s t : CA} {c d : RC} (hb : Blk w b (s.cells gr co c.pc c.at_ ++ t.cells gr co d.pc d.at_) 114) (hF : F b) (h : CRd w D s gr co c) (h2 : CRd w D t gr co d) : CfL w F D gr co (.slice (some ⟨b, 0, none⟩) 2 2) [c, d] :=
  ⟨[(s, c), (t, d)], rfl, .at_ (rest := []) hF (by simpa [flatC] using hb) rfl rfl (Nat.le_refl _) (by simp only [maxLen]; omega), fun p hp => by
    simp only [List.mem_cons, List.not_mem_nil, or_false] at hp
    rcases hp with rfl | rfl
    · exact h
    · exact h2⟩
theorem refs_get {w : World} {D : Nat → Prop} {bX : Nat} {A : Option Addr} {n cp gr co : Nat} {fo : Bool} {ins : List Ins} {line : ByteArray} {bR : Nat} {sv mv : Value} (h : PlM w D bX A n cp gr co fo ins line bR sv mv) (k : Nat) (hk : k < gr) : ∃ b, (refsN ins gr).getD k false = b ∧ w.cell? ⟨bR, k, none⟩ = some (.bool b) ∧ bR < w.heap.size := by
  have hl := refs_len ins gr
  obtain ⟨b, hb⟩ : ∃ b, (refsN ins gr)[k]? = some b := ⟨_, List.getElem?_eq_getElem (by omega)⟩
  exact ⟨b, by rw [List.getD_eq_getElem?_getD, hb]; rfl, by rw [h.refs.cell, List.getElem?_map, hb]; rfl, h.refs.lt⟩
end Go.Proofs.Ytoadmpochaeohaa
end
