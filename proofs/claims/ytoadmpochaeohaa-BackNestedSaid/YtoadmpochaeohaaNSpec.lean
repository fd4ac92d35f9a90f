/-
  What layer 16 computes, in plain Lean.
-/
import Derived.Test.YtoadmpochaeohaaNIter
set_option linter.unusedVariables false
set_option linter.unusedSimpArgs false
set_option maxRecDepth 100000
namespace Go.Proofs.Ytoadmpochaeohaa
open Go.RowKit

/-- An instruction. -/
structure Ins where
  op : Int
  x : Int
  y : Int
  n : Int
  mn : Int
  mx : Int
  s0 : Int
  s1 : Int
  s2 : Int
  s3 : Int
def Ins.cells (i : Ins) : List Value := [.int .i64 i.op, .int .i64 i.x, .int .i64 i.y, .int .i64 i.n, .int .i64 i.mn, .int .i64 i.mx, .int .u64 i.s0, .int .u64 i.s1, .int .u64 i.s2, .int .u64 i.s3]
def flatI (l : List Ins) : List Value := l.flatMap Ins.cells
theorem flatI_len (l : List Ins) : (flatI l).length = l.length * 10 := by
  induction l with
  | nil => rfl
  | cons x l ih => simp only [flatI, List.flatMap_cons, List.length_append] at *; rw [ih]; simp [Ins.cells]; omega
theorem flatI_get : ∀ (l : List Ins) (k : Nat) (p : Ins), l[k]? = some p → ∀ j, j < 10 → (flatI l)[k * 10 + j]? = p.cells[j]?
  | [], k, p, h, j, hj => by simp at h
  | x :: l, 0, p, h, j, hj => by
    simp at h; subst h
    rw [flatI, List.flatMap_cons, Nat.zero_mul, Nat.zero_add, List.getElem?_append_left (by simp [Ins.cells]; omega)]
  | x :: l, k + 1, p, h, j, hj => by
    rw [flatI, List.flatMap_cons, List.getElem?_append_right (by simp [Ins.cells]; omega), show (k + 1) * 10 + j - (Ins.cells x).length = k * 10 + j by simp [Ins.cells]; omega]
    exact flatI_get l k p (by simpa using h) j hj
theorem Rd.ins {w : World} {F : Nat → Prop} {A : Option Addr} {n c : Nat} {l : List Ins} (h : Rd w F 10 A n c (flatI l)) (k : Nat) (p : Ins) (hk : l[k]? = some p) : ∃ b off, A = some ⟨b, off, none⟩ ∧ b < w.heap.size ∧
    ∀ j v, p.cells[j]? = some v → w.cell? ⟨b, off + k * 10 + j, none⟩ = some v := by
  have hk' := (List.getElem?_eq_some_iff.1 hk).1
  have hn : l.length = n := by have := h.len; rw [flatI_len] at this; omega
  obtain ⟨b, off, hA, hb, hc⟩ := h.elem k (by omega)
  refine ⟨b, off, hA, hb, fun j v hj => hc j v ?_⟩
  rw [flatI_get l k p hk j (by have := (List.getElem?_eq_some_iff.1 hj).1; simpa [Ins.cells] using this)]
  exact hj

/-- What a program must be for a search to stand: a right, free one. -/
structure Fine (l : List Ins) : Prop where
  pos : 0 < l.length
  few : l.length ≤ 40000
  split : ∀ (k : Nat) (i : Ins), l[k]? = some i → i.op = 2 → 0 ≤ i.x ∧ i.x < l.length ∧ 0 ≤ i.y ∧ i.y < l.length
  jump : ∀ (k : Nat) (i : Ins), l[k]? = some i → i.op = 3 → 0 ≤ i.x ∧ i.x < l.length
  next : ∀ (k : Nat) (i : Ins), l[k]? = some i → (i.op = 1 ∨ i.op = 4 ∨ i.op = 5 ∨ i.op = 6 ∨ i.op = 7) → k + 1 < l.length

/-- Where an instruction leads without a byte, the top of the stack first; b0: at the line's beginning; b1: at its end. -/
def succs (l : List Ins) (b0 b1 : Bool) (k : Nat) : List Nat :=
  match l[k]? with
  | none => []
  | some i => if i.op = 2 then [i.x.toNat, i.y.toNat] else if i.op = 3 then [i.x.toNat] else if i.op = 4 then (if b0 then [k + 1] else []) else if i.op = 5 then (if b1 then [k + 1] else []) else if i.op = 6 ∨ i.op = 7 then [k + 1] else []
theorem succs_lt {l : List Ins} (h : Fine l) (b0 b1 : Bool) (k : Nat) : ∀ j ∈ succs l b0 b1 k, j < l.length := by
  intro j hj
  unfold succs at hj
  split at hj
  · simp at hj
  · rename_i i hi
    split at hj
    · rename_i h2
      have := h.split k i hi h2
      simp at hj
      omega
    · split at hj
      · rename_i h3
        have := h.jump k i hi h3
        simp at hj
        omega
      · split at hj
        · rename_i h4
          have := h.next k i hi (by omega)
          split at hj
          · simp at hj; omega
          · simp at hj
        · split at hj
          · rename_i h5
            have := h.next k i hi (by omega)
            split at hj
            · simp at hj; omega
            · simp at hj
          · split at hj
            · rename_i h6
              have := h.next k i hi (by omega)
              simp at hj; omega
            · simp at hj
theorem succs_len (l : List Ins) (b0 b1 : Bool) (k : Nat) : (succs l b0 b1 k).length ≤ 2 := by
  unfold succs
  repeat' split
  all_goals simp

/-- 'come': all that k leads to, at a place; each with where its part began. -/
def comeP (l : List Ins) (b0 b1 : Bool) (from_ : Int) : Nat → List Nat → List (Nat × Int) → List (Nat × Int)
  | 0, _, np => np
  | _ + 1, [], np => np
  | f + 1, k :: st, np => if k ∈ np.map Prod.fst then comeP l b0 b1 from_ f st np else comeP l b0 b1 from_ f (succs l b0 b1 k ++ st) (np ++ [(k, from_)])
def comeL (l : List Ins) (b0 b1 : Bool) (from_ : Int) (k : Nat) (np : List (Nat × Int)) : List (Nat × Int) := comeP l b0 b1 from_ (3 * l.length + 1) [k] np

/-- Is a byte in a set? -/
def hasB (i : Ins) (c : UInt8) : Bool :=
  let q := c.toNat / 64
  let s := if q = 0 then i.s0 else if q = 1 then i.s1 else if q = 2 then i.s2 else i.s3
  (s.toNat >>> (c.toNat % 64)) % 2 == 1

/-- What 'play' knows: the part found, if any. -/
abbrev Best := Option (Int × Int)

/-- Is what follows too late: a part was found that began ahead of it. -/
def late (b : Best) (f : Int) : Bool := match b with | some (f0, _) => decide (f0 < f) | none => false
/-- A match at a place. -/
def better (b : Best) (f : Int) (at_ : Nat) : Best := match b with | none => some (f, (at_ : Int)) | some (f0, t) => if f < f0 ∨ t < (at_ : Int) then some (f, (at_ : Int)) else b
/-- One of those that are now. -/
def stepP (l : List Ins) (line : List UInt8) (at_ : Nat) (k : Nat) (f : Int) (b : Best) (nx : List (Nat × Int)) : Best × List (Nat × Int) :=
  match l[k]? with
  | none => (b, nx)
  | some i => if i.op = 11 then (better b f at_, nx)
    else if i.op = 1 then (match line[at_]? with | some c => if hasB i c then (b, comeL l false (at_ + 1 == line.length) f (k + 1) nx) else (b, nx) | none => (b, nx))
    else (b, nx)
/-- A turn over what is now, at a place. -/
def turnP (l : List Ins) (line : List UInt8) (at_ : Nat) : List (Nat × Int) → Best → List (Nat × Int) → Best × List (Nat × Int)
  | [], b, nx => (b, nx)
  | (k, f) :: now, b, nx => if late b f then (b, nx) else turnP l line at_ now (stepP l line at_ k f b nx).1 (stepP l line at_ k f b nx).2
/-- All places from one on; 'm' of them are left. -/
def playP (l : List Ins) (line : List UInt8) (every : Bool) : Nat → Nat → List (Nat × Int) → Best → Best
  | m, at_, now, b =>
    let r := turnP l line at_ now b []
    match m with
    | 0 => r.1
    | m + 1 => if every && r.1.isNone then playP l line every m (at_ + 1) (comeL l false (at_ + 1 == line.length) ((at_ : Int) + 1) 0 r.2) r.1
      else if r.2 = [] then r.1 else playP l line every m (at_ + 1) r.2 r.1
/-- What a search from a place finds. -/
def findP (l : List Ins) (line : List UInt8) (at_ : Nat) (every : Bool) : Best :=
  playP l line every (line.length - at_) at_ (comeL l (at_ == 0) (at_ == line.length) at_ 0 []) none
end Go.Proofs.Ytoadmpochaeohaa
