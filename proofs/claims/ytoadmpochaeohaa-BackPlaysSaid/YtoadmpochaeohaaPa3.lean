/-
  The iterator over a set (marks' All).
-/
import Derived.Test.YtoadmpochaeohaaPa2
section
set_option linter.unusedVariables false
set_option linter.unusedSimpArgs false
set_option maxRecDepth 100000
namespace Go.Proofs.Ytoadmpochaeohaa
open Go.RowKit Go.Shelf

def CloneMPost (w : World) (n : Nat) (l : List Nat) (e : Ending) (w' : World) : Prop :=
  ∃ v, e = .returned v ∧ Sl w' (fun k => w.heap.size ≤ k) 21 1 v n (l.map N32) ∧ Frm (fun _ => False) w w'

set_option maxHeartbeats 400000 in
theorem cloneM {F : Nat → Prop} {A : Option Addr} {n c : Nat} {l : List Nat} (w : World) (h : Rd w F 1 A n c (l.map N32)) (hb : n ≤ 1073741824) :
    Calls Try.prog 83 #[.slice A n c] w (CloneMPost w n l) := by
  have hl : l.length = n := by have := h.len; simpa using this
  rcases A with _ | a
  · obtain ⟨rfl, rfl⟩ := h.none_ rfl
    obtain rfl : l = [] := List.eq_nil_of_length_eq_zero hl
    have hq := fun w => Lib.run_eql_slice_nil (P := Try.prog) w 172 21 none 0 0 0 0 Try.underlying172
    go_enter Try.func83, Try.ntmps83
    go_wp2
    go_ret
    exact ⟨_, rfl, by simpa using Sl.nil, Frm.refl _ _⟩
  · have hq := fun w => Lib.run_eql_slice_nil (P := Try.prog) w 172 21 (some a) n c 0 0 Try.underlying172
    obtain ⟨b, off, q⟩ := a
    have hS : Sl (w.alloc (.cells #[] 21)) (fun k => k = w.heap.size) 21 1 (.slice (some ⟨w.heap.size, 0, none⟩) 0 0) 0 [] := .at_ (rest := []) rfl (Blk.new w [] 21) rfl rfl (Nat.le_refl _) (by simp only [maxLen]; omega)
    have h2 := h.alloc (.cells #[] 21)
    go_enter Try.func83, Try.ntmps83
    go_wp2_with (with_reducible refine stop_at 7 rfl ?_)
    unfold Stop
    refine op_appendRd rfl _ _ _ rfl 21 _ 1 4 Try.underlying172 infoI32 rfl (by omega) hS rfl h2 rfl (n32_one l) (by simp only [maxLen]; omega) (by omega) ?_
    intro v' w1 hf1 hs1
    go_wp2
    go_ret
    refine ⟨_, rfl, ?_, ((Frm.refl (fun _ => False) w).alloc _).then hf1 (fun i h hi => by omega)⟩
    have := hs1.mono (G := fun k => w.heap.size ≤ k) (by rintro k (h | h) _; omega; simp at h; omega)
    simpa using this

theorem allM (g : Nat) (w : World) : Calls Try.prog 61 #[.pointer (some ⟨g, 0, none⟩)] w fun e w' => e = .returned (.func (.func 82) #[] #[.pointer (some ⟨w.heap.size, 0, none⟩)]) ∧ w' = w.alloc (.cells #[.pointer (some ⟨g, 0, none⟩)] 97) := by
  go_enter Try.func61, Try.ntmps61
  go_wp2
  go_ret
  exact ⟨rfl, rfl⟩

attribute [local go_sem] Oper.semAt_some

set_option maxHeartbeats 2000000 in
set_option maxRecDepth 100000 in
/-- The iterator over a set: its numbers in the order of their coming. -/
theorem allM_stops (n : Nat) (hn : 2 ≤ n) (F : Nat → Prop) (g bx B room : Nat) (l : List (Fin room)) (w : World) (h : MK w F g room (l.map Fin.val)) (hbx : w.cell? ⟨bx, 0, none⟩ = some (.pointer (some ⟨g, 0, none⟩))) (hbl : bx < w.heap.size) (hB : B ≤ w.heap.size) :
    SeqStopsK Fence.wide n Try.prog 82 #[.pointer (some ⟨bx, 0, none⟩)] (fun x : Fin room => #[.int .i64 x.val]) (KpB B) (fun ys => ys = l) (fun pre => pre <+: l) l.length w := by
  intro lo J Jx W hW hJ hJx hY h0
  have hF : Frm (fun _ => False) w W := Frm.of_below hW
  have hroom := h.room
  have hlen := h.nodup.2.2
  rw [List.length_map] at hlen
  obtain ⟨vw, vl, Fw, Fl, wh, hBl, hFg, hSw, hS, _⟩ := h.low.frm hF (fun _ _ h => h)
  obtain ⟨A, c, rfl⟩ := hS.form
  obtain ⟨c0, c1, f0, f1, l0⟩ := blk2 hBl
  have hbx2 := (hW.cell (p := ⟨bx, 0, none⟩) hbl).trans hbx
  have hbB : B ≤ W.heap.size := Nat.le_trans hB hW.size
  have h1 : 1 ≤ n - 1 := by omega
  rw [List.length_map] at hS c1
  refine callsIn_of_wp Try.func82 rfl trivial ?_ rfl
  simp only [Try.ntmps82, List.size_toArray, List.length_cons, List.length_nil, Nat.reduceAdd, Nat.reduceSub, Array.replicate_succ, Array.replicate_zero, List.push_toArray, List.append_toArray, List.nil_append, List.cons_append]
  gi_wp2
  refine ⟨trivial, fun _ => by omega, ?_⟩
  refine (callsIn_wide.2 (cloneM W hS.rd (by omega))).mono ?_
  rintro e w1 ⟨v1, rfl, hs1, hf1⟩
  have h01 : J [] w1 := hJ [] W w1 none h0 ((hf1.mono (fun _ h _ => h.elim)).grown) (fun r e => by cases e)
  have hz1 := hf1.size
  obtain ⟨A1, c1', rfl⟩ := hs1.form
  gi_wp2
  gi_loopw [11] (fun i wr => ∃ (pre rest : List (Fin room)), i = .int .i64 (pre.length : Int) ∧ Hid (l = pre ++ rest) ∧ J pre wr ∧ Sl wr (fun k => W.heap.size ≤ k) 21 1 (.slice A1 l.length c1') l.length ((l.map Fin.val).map N32)) (fun i _ => l.length - (intOf i).toNat)
  case atStart => exact ⟨[], l, rfl, rfl, h01, hs1⟩
  case round =>
    obtain ⟨pre, rest, rfl, HX, hJs, hs⟩ := hrel
    rcases rest with _ | ⟨x, rest⟩
    · have hpl : pre = l := by have := HX.out; simpa using this.symm
      subst hpl
      gi_wp2
      go_end0
      exact ⟨⟨_, rfl⟩, .inl ⟨pre, rfl, hJs⟩⟩
    · have hlp : pre.length < l.length := by rw [HX.out]; simp
      have hxr : l[pre.length]? = some x := by rw [HX.out]; simp
      obtain ⟨b, off, rfl, hbl2, d0⟩ : ∃ b off, A1 = some ⟨b, off, none⟩ ∧ b < wr.heap.size ∧ wr.cell? ⟨b, off + pre.length, none⟩ = some (.int .i32 (x.val : Int)) := by
        obtain ⟨b, off, e, hb, hc⟩ := hs.rd.elem pre.length hlp
        exact ⟨b, off, e, hb, by simpa [N32, hxr] using hc 0 (N32 x.val) (by simp [hxr])⟩
      have hxl := x.isLt
      have hwx : IntKind.i64.wrap (x.val : Int) = (x.val : Int) := IntWalk.i64_in _ (by omega)
      obtain ⟨fn, tmps, assign, body, hy, hR⟩ := hY pre x _ hJs hlp
      clear hxr
      gi_wp2
      refine ⟨fun _ => by omega, ?_⟩
      refine hR.mono ?_
      rintro e W3 (⟨rfl, hJ3, hk3⟩ | ⟨rfl, hJx3⟩)
      · gi_wp2
        go_roundw
        case rel =>
          refine ⟨pre ++ [x], rest, by simp, ?_, hJ3, hs.kp hk3 (fun i hi => Nat.le_trans hbB hi)⟩
          show l = pre ++ [x] ++ rest
          rw [HX.out]; simp
        case measure => simp [intOf] <;> omega
      · gi_wp2
        refine bodyPost_ret (results_none rfl _ _ _) rfl ?_
        refine ⟨⟨_, rfl⟩, .inr ⟨pre ++ [x], ⟨rest, ?_⟩, hJx3⟩⟩
        rw [HX.out]; simp
end Go.Proofs.Ytoadmpochaeohaa
end

section
set_option linter.unusedVariables false
set_option linter.unusedSimpArgs false
set_option maxRecDepth 100000
namespace Go.Proofs.Ytoadmpochaeohaa
open Go.RowKit

/-- An instruction. -/
structure Ins where
  op : Int
  x : Int
  y : Int
  n : Int
  mn : Int
  mx : Int
  s0 : Int
  s1 : Int
  s2 : Int
  s3 : Int
def Ins.cells (i : Ins) : List Value := [.int .i64 i.op, .int .i64 i.x, .int .i64 i.y, .int .i64 i.n, .int .i64 i.mn, .int .i64 i.mx, .int .u64 i.s0, .int .u64 i.s1, .int .u64 i.s2, .int .u64 i.s3]
def flatI (l : List Ins) : List Value := l.flatMap Ins.cells
theorem flatI_len (l : List Ins) : (flatI l).length = l.length * 10 := by
  induction l with
  | nil => rfl
  | cons x l ih => simp only [flatI, List.flatMap_cons, List.length_append] at *; rw [ih]; simp [Ins.cells]; omega
theorem flatI_get : ∀ (l : List Ins) (k : Nat) (p : Ins), l[k]? = some p → ∀ j, j < 10 → (flatI l)[k * 10 + j]? = p.cells[j]?
  | [], k, p, h, j, hj => by simp at h
  | x :: l, 0, p, h, j, hj => by
    simp at h; subst h
    rw [flatI, List.flatMap_cons, Nat.zero_mul, Nat.zero_add, List.getElem?_append_left (by simp [Ins.cells]; omega)]
  | x :: l, k + 1, p, h, j, hj => by
    rw [flatI, List.flatMap_cons, List.getElem?_append_right (by simp [Ins.cells]; omega), show (k + 1) * 10 + j - (Ins.cells x).length = k * 10 + j by simp [Ins.cells]; omega]
    exact flatI_get l k p (by simpa using h) j hj
theorem Rd.ins {w : World} {F : Nat → Prop} {A : Option Addr} {n c : Nat} {l : List Ins} (h : Rd w F 10 A n c (flatI l)) (k : Nat) (p : Ins) (hk : l[k]? = some p) : ∃ b off, A = some ⟨b, off, none⟩ ∧ b < w.heap.size ∧
    ∀ j v, p.cells[j]? = some v → w.cell? ⟨b, off + k * 10 + j, none⟩ = some v := by
  have hk' := (List.getElem?_eq_some_iff.1 hk).1
  have hn : l.length = n := by have := h.len; rw [flatI_len] at this; omega
  obtain ⟨b, off, hA, hb, hc⟩ := h.elem k (by omega)
  refine ⟨b, off, hA, hb, fun j v hj => hc j v ?_⟩
  rw [flatI_get l k p hk j (by have := (List.getElem?_eq_some_iff.1 hj).1; simpa [Ins.cells] using this)]
  exact hj

/-- What a program must be for a search to stand: a right, free one. -/
structure Fine (l : List Ins) : Prop where
  pos : 0 < l.length
  few : l.length ≤ 40000
  split : ∀ (k : Nat) (i : Ins), l[k]? = some i → i.op = 2 → 0 ≤ i.x ∧ i.x < l.length ∧ 0 ≤ i.y ∧ i.y < l.length
  jump : ∀ (k : Nat) (i : Ins), l[k]? = some i → i.op = 3 → 0 ≤ i.x ∧ i.x < l.length
  next : ∀ (k : Nat) (i : Ins), l[k]? = some i → (i.op = 1 ∨ i.op = 4 ∨ i.op = 5 ∨ i.op = 6 ∨ i.op = 7) → k + 1 < l.length

/-- Where an instruction leads without a byte, the top of the stack first; b0: at the line's beginning; b1: at its end. -/
def succs (l : List Ins) (b0 b1 : Bool) (k : Nat) : List Nat :=
  match l[k]? with
  | none => []
  | some i => if i.op = 2 then [i.x.toNat, i.y.toNat] else if i.op = 3 then [i.x.toNat] else if i.op = 4 then (if b0 then [k + 1] else []) else if i.op = 5 then (if b1 then [k + 1] else []) else if i.op = 6 ∨ i.op = 7 then [k + 1] else []
theorem succs_lt {l : List Ins} (h : Fine l) (b0 b1 : Bool) (k : Nat) : ∀ j ∈ succs l b0 b1 k, j < l.length := by
  intro j hj
  unfold succs at hj
  split at hj
  · simp at hj
  · rename_i i hi
    split at hj
    · rename_i h2
      have := h.split k i hi h2
      simp at hj
      omega
    · split at hj
      · rename_i h3
        have := h.jump k i hi h3
        simp at hj
        omega
      · split at hj
        · rename_i h4
          have := h.next k i hi (by omega)
          split at hj
          · simp at hj; omega
          · simp at hj
        · split at hj
          · rename_i h5
            have := h.next k i hi (by omega)
            split at hj
            · simp at hj; omega
            · simp at hj
          · split at hj
            · rename_i h6
              have := h.next k i hi (by omega)
              simp at hj; omega
            · simp at hj
theorem succs_len (l : List Ins) (b0 b1 : Bool) (k : Nat) : (succs l b0 b1 k).length ≤ 2 := by
  unfold succs
  repeat' split
  all_goals simp

/-- 'come': all that k leads to, at a place; each with where its part began. -/
def comeP (l : List Ins) (b0 b1 : Bool) (from_ : Int) : Nat → List Nat → List (Nat × Int) → List (Nat × Int)
  | 0, _, np => np
  | _ + 1, [], np => np
  | f + 1, k :: st, np => if k ∈ np.map Prod.fst then comeP l b0 b1 from_ f st np else comeP l b0 b1 from_ f (succs l b0 b1 k ++ st) (np ++ [(k, from_)])
def comeL (l : List Ins) (b0 b1 : Bool) (from_ : Int) (k : Nat) (np : List (Nat × Int)) : List (Nat × Int) := comeP l b0 b1 from_ (3 * l.length + 1) [k] np

/-- Is a byte in a set? -/
def hasB (i : Ins) (c : UInt8) : Bool :=
  let q := c.toNat / 64
  let s := if q = 0 then i.s0 else if q = 1 then i.s1 else if q = 2 then i.s2 else i.s3
  (s.toNat >>> (c.toNat % 64)) % 2 == 1

/-- What 'play' knows: the part found, if any. -/
abbrev Best := Option (Int × Int)

/-- Is what follows too late: a part was found that began ahead of it. -/
def late (b : Best) (f : Int) : Bool := match b with | some (f0, _) => decide (f0 < f) | none => false
/-- A match at a place. -/
def better (b : Best) (f : Int) (at_ : Nat) : Best := match b with | none => some (f, (at_ : Int)) | some (f0, t) => if f < f0 ∨ t < (at_ : Int) then some (f, (at_ : Int)) else b
/-- One of those that are now. -/
def stepP (l : List Ins) (line : List UInt8) (at_ : Nat) (k : Nat) (f : Int) (b : Best) (nx : List (Nat × Int)) : Best × List (Nat × Int) :=
  match l[k]? with
  | none => (b, nx)
  | some i => if i.op = 11 then (better b f at_, nx)
    else if i.op = 1 then (match line[at_]? with | some c => if hasB i c then (b, comeL l false (at_ + 1 == line.length) f (k + 1) nx) else (b, nx) | none => (b, nx))
    else (b, nx)
/-- A turn over what is now, at a place. -/
def turnP (l : List Ins) (line : List UInt8) (at_ : Nat) : List (Nat × Int) → Best → List (Nat × Int) → Best × List (Nat × Int)
  | [], b, nx => (b, nx)
  | (k, f) :: now, b, nx => if late b f then (b, nx) else turnP l line at_ now (stepP l line at_ k f b nx).1 (stepP l line at_ k f b nx).2
/-- All places from one on; 'm' of them are left. -/
def playP (l : List Ins) (line : List UInt8) (every : Bool) : Nat → Nat → List (Nat × Int) → Best → Best
  | m, at_, now, b =>
    let r := turnP l line at_ now b []
    match m with
    | 0 => r.1
    | m + 1 => if every && r.1.isNone then playP l line every m (at_ + 1) (comeL l false (at_ + 1 == line.length) ((at_ : Int) + 1) 0 r.2) r.1
      else if r.2 = [] then r.1 else playP l line every m (at_ + 1) r.2 r.1
/-- What a search from a place finds. -/
def findP (l : List Ins) (line : List UInt8) (at_ : Nat) (every : Bool) : Best :=
  playP l line every (line.length - at_) at_ (comeL l (at_ == 0) (at_ == line.length) at_ 0 []) none
end Go.Proofs.Ytoadmpochaeohaa
end

section
set_option linter.unusedVariables false
set_option linter.unusedSimpArgs false
namespace Go.Proofs.Ytoadmpochaeohaa
open Go.RowKit

/-- What a group has: where it began last, its part; -1: nothing. -/
structure Pt where
  began : Int
  frm : Int
  til : Int
deriving DecidableEq
/-- What a counter has had. -/
structure Tn where
  many : Int
  began : Int
deriving DecidableEq
structure Cf where
  pc : Nat
  at_ : Nat
  parts : List Pt
  turns : List Tn
deriving DecidableEq
abbrev Key := List UInt8
inductive Fr where
  | look (c : Cf)
  | leave (k : Key)
/-- What a group has that still matters. -/
structure Lv where
  began : Bool
  part : Bool
deriving DecidableEq
/-- A machine. -/
structure Mc where
  ins : List Ins
  fold : Bool
  plain : Bool
  slot : List Int
  most : List Int
  live : List (List Lv)

def inB (i : Ins) (c : UInt8) : Bool :=
  bits BinOp.and IntKind.u64 ((if c.toNat / 64 = 0 then i.s0 else if c.toNat / 64 = 1 then i.s1 else if c.toNat / 64 = 2 then i.s2 else i.s3) / 2 ^ (c.toNat % 64)) 1 == 1

/-- Where an instruction leads. -/
def leadsS (i : Ins) (k : Nat) : List Nat :=
  if i.op = 2 ∨ i.op = 10 then [i.x.toNat, i.y.toNat] else if i.op = 3 then [i.x.toNat] else if i.op = 11 then [] else [k + 1]
/-- The places of the groups that are referred to. -/
def slotP : List Ins → List Int → Int → List Int × Int
  | [], s, n => (s, n)
  | i :: l, s, n => if i.op = 8 ∧ s.getD i.n.toNat 0 < 0 then slotP l (s.set i.n.toNat n) (n + 1) else slotP l s n
def mostP : List Ins → List Int → List Int
  | [], m => m
  | i :: l, m => if i.op = 10 then mostP l (m.set i.n.toNat (max (max (m.getD i.n.toNat 0) i.mx) (i.mn + 1))) else mostP l m
def lv (live : List (List Lv)) (k g : Nat) : Lv := (live.getD k []).getD g ⟨false, false⟩
/-- What matters at an instruction, of one group, if that is known which matters where it leads. -/
def markOne (slot : List Int) (live : List (List Lv)) (i : Ins) (k g : Nat) : Lv :=
  let l : Lv := (leadsS i k).foldl (fun l t => ⟨l.began || (lv live t g).began, l.part || (lv live t g).part⟩) ⟨false, false⟩
  if (i.op = 6 ∨ i.op = 7 ∨ i.op = 8) ∧ slot.getD i.n.toNat (-1) = g then (if i.op = 6 then ⟨false, l.part⟩ else if i.op = 7 then ⟨true, false⟩ else ⟨l.began, true⟩) else l
def setLv (live : List (List Lv)) (k g : Nat) (l : Lv) : List (List Lv) := live.set k ((live.getD k []).set g l)

def put4 (n : Int) : List UInt8 := [UInt8.ofNat (n % 256).toNat, UInt8.ofNat (n / 256 % 256).toNat, UInt8.ofNat (n / 65536 % 256).toNat, UInt8.ofNat (n / 16777216 % 256).toNat]
def keyPt (l : Lv) (p : Pt) : List UInt8 := put4 (if l.began then p.began else -1) ++ put4 (if l.part then p.frm else -1) ++ put4 (if l.part then p.til else -1)
def keyPs (ls : List Lv) : Nat → List Pt → List UInt8
  | _, [] => []
  | g, p :: ps => keyPt (ls.getD g ⟨false, false⟩) p ++ keyPs ls (g + 1) ps
def keyTn (at_ : Nat) (t : Tn) : List UInt8 := put4 (2 * t.many + if t.began = at_ then 1 else 0)
/-- What a configuration is told apart by. -/
def keyS (m : Mc) (c : Cf) : Key := put4 c.pc ++ put4 c.at_ ++ keyPs (m.live.getD c.pc []) 0 c.parts ++ c.turns.flatMap (keyTn c.at_)

def lowS (c : UInt8) : UInt8 := if 65 ≤ c ∧ c ≤ 90 then c + 32 else c
def sameS (fold : Bool) (line : List UInt8) (a b : Nat) : Nat → Bool
  | 0 => true
  | n + 1 => sameS fold line a b n && (match line[a + n]?, line[b + n]? with | some x, some y => x == y || (fold && lowS x == lowS y) | _, _ => false)
/-- How long what a group had is, if it stands here, too. -/
def againS (m : Mc) (line : List UInt8) (c : Cf) (g : Nat) : Option Nat :=
  match c.parts[g]? with
  | none => none
  | some p => if p.frm < 0 ∨ (line.length : Int) - c.at_ < p.til - p.frm then none
    else if sameS m.fold line p.frm.toNat c.at_ (p.til - p.frm).toNat then some (p.til - p.frm).toNat else none
def bracketS (m : Mc) (c : Cf) (i : Ins) : Cf :=
  let g := m.slot.getD i.n.toNat (-1)
  if g < 0 then c else
    let p := c.parts.getD g.toNat ⟨-1, -1, -1⟩
    if i.op = 6 then { c with parts := c.parts.set g.toNat { p with began := c.at_ } }
    else { c with parts := c.parts.set g.toNat ⟨p.began, if p.began < 0 then (c.at_ : Int) else p.began, c.at_⟩ }
def countS (c : Cf) (k : Nat) (t : Tn) : Cf := { c with turns := c.turns.set k t }
/-- Where a configuration leads, what is looked at last first. -/
def onS (m : Mc) (line : List UInt8) (c : Cf) : List Cf :=
  match m.ins[c.pc]? with
  | none => []
  | some i =>
    if i.op = 1 then (match line[c.at_]? with | some x => if inB i x then [{ c with at_ := c.at_ + 1, pc := c.pc + 1 }] else [] | none => [])
    else if i.op = 2 then [{ c with pc := i.y.toNat }, { c with pc := i.x.toNat }]
    else if i.op = 3 then [{ c with pc := i.x.toNat }]
    else if i.op = 4 then (if c.at_ = 0 then [{ c with pc := c.pc + 1 }] else [])
    else if i.op = 5 then (if c.at_ = line.length then [{ c with pc := c.pc + 1 }] else [])
    else if i.op = 6 ∨ i.op = 7 then [{ bracketS m c i with pc := c.pc + 1 }]
    else if i.op = 8 then (match againS m line c (m.slot.getD i.n.toNat (-1)).toNat with | some n => [{ c with at_ := c.at_ + n, pc := c.pc + 1 }] | none => [])
    else if i.op = 9 then [{ countS c i.n.toNat ⟨0, -1⟩ with pc := c.pc + 1 }]
    else if i.op = 10 then
      let t := c.turns.getD i.n.toNat ⟨0, -1⟩
      if i.mn < t.many ∧ t.began = c.at_ then [] else
        (if i.mn ≤ t.many then [{ c with pc := i.y.toNat }] else []) ++
        (if i.mx = -1 ∨ t.many < i.mx then [{ countS c i.n.toNat ⟨min (t.many + 1) (m.most.getD i.n.toNat 0), c.at_⟩ with pc := i.x.toNat }] else [])
    else []
def isHit (m : Mc) (c : Cf) : Bool := match m.ins[c.pc]? with | some i => i.op == 11 | none => false
/-- What a run knows. -/
structure Rn where
  seen : List Key
  steps : Nat
  kept : Nat
  best : Option Nat
def hitS (m : Mc) (c : Cf) (b : Option Nat) : Option Nat :=
  if isHit m c then (match b with | none => some c.at_ | some e => if e < c.at_ then some c.at_ else some e) else b
/-- All ways, so many looks at most; none: it has not come to its end. -/
def runS (m : Mc) (line : List UInt8) : Nat → List Fr → Rn → Option Rn
  | _, [], r => some r
  | 0, _ :: _, _ => none
  | f + 1, .leave k :: p, r => runS m line f p { r with seen := r.seen.erase k }
  | f + 1, .look c :: p, r =>
    if keyS m c ∈ r.seen then runS m line f p { r with steps := r.steps + 1 }
    else runS m line f ((onS m line c).reverse.map .look ++ (if m.plain then .leave (keyS m c) :: p else p))
      ⟨keyS m c :: r.seen, r.steps + 1, if m.plain then r.kept else max r.kept (r.seen.length + 1), hitS m c r.best⟩
/-- Where a run begins. -/
def startS (m : Mc) (at_ : Nat) : Cf := ⟨0, at_, (m.slot.filter (0 ≤ ·)).map fun _ => ⟨-1, -1, -1⟩, m.most.map fun _ => ⟨0, -1⟩⟩
end Go.Proofs.Ytoadmpochaeohaa
end

section
set_option linter.unusedVariables false
set_option linter.unusedSimpArgs false
set_option maxRecDepth 100000
namespace Go.Proofs.Ytoadmpochaeohaa
open Go.RowKit

set_option maxHeartbeats 800000 in
theorem toB (F : Nat → Prop) (b g : Nat) (cs : List Value) (xs : List Value) (pc at_ q : Int) (A B : Option Addr) (n c m d : Nat) (w : World) (h : PS w F g xs) (hB : Blk w b cs 78) (hc : cs[9]? = some (.pointer (some ⟨g, 0, none⟩))) (hb : xs.length ≤ 1073741824) :
    Calls Try.prog 75 #[.pointer (some ⟨b, 0, none⟩), .agg #[.int .i64 pc, .int .i64 at_, .slice A n c, .slice B m d], .int .i64 q] w (PushPost F g w (xs ++ [.iface 136 (.agg #[.int .i64 q, .int .i64 at_, .slice A n c, .slice B m d])])) := by
  have hX := Blk.new w [.int .i64 q, .int .i64 at_, .slice A n c, .slice B m d] 129
  have hf0 : Frm (fun _ => False) w (w.alloc (.cells #[.int .i64 q, .int .i64 at_, .slice A n c, .slice B m d] 129)) := (Frm.refl _ w).alloc _
  have hP1 := h.low.frm hf0 (fun _ _ h => h)
  have hB1 := hB.frm hf0 (fun h => h)
  go_enter Try.func75, Try.ntmps75
  go_upto_region 2 with fail
  generalize w.alloc (.cells #[.int .i64 q, .int .i64 at_, .slice A n c, .slice B m d] 129) = w1 at *
  obtain ⟨bx, hbx⟩ : ∃ bx, w.heap.size = bx := ⟨_, rfl⟩
  rw [hbx] at hX hP1
  have HBX := Lib.hid hbx
  simp only [hbx]
  clear hbx
  have HPU := Lib.hid (pushB _ g xs 136 (.agg #[.int .i64 q, .int .i64 at_, .slice A n c, .slice B m d]) w1.drew (hP1.frm (S := fun _ => False) ((Frm.refl _ w1).drew) (fun _ _ h => h)) hb)
  obtain ⟨x0, x1, x2, x3, y0, y1, y2, y3, lx⟩ := blk4 hX
  have b9 := hB1.cell 9
  rw [hc] at b9
  have lb := hB1.lt
  go_region_with (go_at_call 53; refine HPU.out.mono ?_; rintro e w2 ⟨rfl, hp2, hf2⟩)
  all_goals
    go_wp2_with fail
    go_end0
    have hz := HBX.out
    have hz1 := hf0.size
    refine ⟨rfl, hp2.mono (fun k h l => ?_), (hf0.drew.mono (fun _ h _ => h.elim)).then hf2 (fun i h _ => h.1)⟩
    rcases h with h | h
    · exact .inl h.1
    · have : w1.heap.size ≤ k := h
      exact .inr (by omega)

/-- Is a byte in a set? -/
theorem hasB_ (i : Ins) (c : UInt8) (w : World) : Calls Try.prog 74 #[.agg #[.int .u64 i.s0, .int .u64 i.s1, .int .u64 i.s2, .int .u64 i.s3], .int .u8 c.toNat] w fun e w' => e = .returned (.bool (inB i c)) ∧ w' = w.alloc (.cells #[.int .u64 i.s0, .int .u64 i.s1, .int .u64 i.s2, .int .u64 i.s3] 37) := by
  have hc := c.toNat_lt
  have hB := Blk.new w [.int .u64 i.s0, .int .u64 i.s1, .int .u64 i.s2, .int .u64 i.s3] 37
  have b0 := hB.cell 0
  have b1 := hB.cell 1
  have b2 := hB.cell 2
  have b3 := hB.cell 3
  simp only [List.getElem?_cons_zero, List.getElem?_cons_succ] at b0 b1 b2 b3
  go_enter Try.func74, Try.ntmps74
  go_upto_region 1 with fail
  generalize hw : w.alloc (.cells #[.int .u64 i.s0, .int .u64 i.s1, .int .u64 i.s2, .int .u64 i.s3] 37) = w1 at *
  have HW := Lib.hid hw
  clear hw
  generalize w.heap.size = b at *
  have hq : c.toNat / 64 = 0 ∨ c.toNat / 64 = 1 ∨ c.toNat / 64 = 2 ∨ c.toNat / 64 = 3 := by omega
  rcases hq with hq | hq | hq | hq
  all_goals
    go_wp2_with fail
    go_ret
    exact ⟨by simp [inB, hq], HW.out.symm⟩

theorem infoPt : (Try.prog.info? 131).map (fun i => (i.zero, i.size, i.bytes)) = some (some (.agg #[.int .i64 0, .int .i64 0, .int .i64 0]), 3, 24) := by kernel_rfl
theorem infoTn : (Try.prog.info? 133).map (fun i => (i.zero, i.size, i.bytes)) = some (some (.agg #[.int .i64 0, .int .i64 0]), 2, 16) := by kernel_rfl
def flatP (l : List Pt) : List Value := l.flatMap fun p => [.int .i64 p.began, .int .i64 p.frm, .int .i64 p.til]
def flatN (l : List Tn) : List Value := l.flatMap fun t => [.int .i64 t.many, .int .i64 t.began]
theorem flatP_len (l : List Pt) : (flatP l).length = l.length * 3 := by
  induction l with
  | nil => rfl
  | cons x l ih => simp only [flatP, List.flatMap_cons, List.length_append, List.length_cons, List.length_nil] at *; rw [ih]; omega
theorem flatN_len (l : List Tn) : (flatN l).length = l.length * 2 := by
  induction l with
  | nil => rfl
  | cons x l ih => simp only [flatN, List.flatMap_cons, List.length_append, List.length_cons, List.length_nil] at *; rw [ih]; omega
theorem flatP_one (l : List Pt) : ∀ u ∈ flatP l, u.oneCell' = true := by
  intro u hu
  obtain ⟨p, _, hu⟩ := List.mem_flatMap.1 hu
  simp at hu
  rcases hu with rfl | rfl | rfl <;> rfl
theorem flatN_one (l : List Tn) : ∀ u ∈ flatN l, u.oneCell' = true := by
  intro u hu
  obtain ⟨p, _, hu⟩ := List.mem_flatMap.1 hu
  simp at hu
  rcases hu with rfl | rfl <;> rfl

/-- The clone of the parts: memory of its own. -/
theorem cloneP (A : Option Addr) (n c : Nat) (l : List Pt) (G : Nat → Prop) (w : World) (h : Rd w G 3 A n c (flatP l)) (hn : n ≤ 1048576) :
    Calls Try.prog 87 #[.slice A n c] w fun e w' => ∃ B d, e = .returned (.slice B n d) ∧ Sl w' (fun k => w.heap.size ≤ k) 131 3 (.slice B n d) n (flatP l) ∧ Frm (fun _ => False) w w' := by
  have hl : l.length = n := by have := h.len; rw [flatP_len] at this; omega
  rcases A with _ | a
  · obtain ⟨rfl, rfl⟩ := h.none_ rfl
    obtain rfl : l = [] := List.eq_nil_of_length_eq_zero hl
    have hq := fun w => Lib.run_eql_slice_nil (P := Try.prog) w 126 131 none 0 0 0 0 Try.underlying126
    go_enter Try.func87, Try.ntmps87
    go_wp2
    go_ret
    exact ⟨_, _, rfl, by simpa [flatP] using Sl.nil, Frm.refl _ _⟩
  · have hq := fun w => Lib.run_eql_slice_nil (P := Try.prog) w 126 131 (some a) n c 0 0 Try.underlying126
    obtain ⟨b, off, q⟩ := a
    have hS : Sl (w.alloc (.cells #[] 131)) (fun k => k = w.heap.size) 131 3 (.slice (some ⟨w.heap.size, 0, none⟩) 0 0) 0 [] := .at_ (rest := []) rfl (Blk.new w [] 131) rfl rfl (Nat.le_refl _) (by simp only [maxLen]; omega)
    have h2 := h.alloc (.cells #[] 131)
    go_enter Try.func87, Try.ntmps87
    go_wp2_with (with_reducible refine stop_at 7 rfl ?_)
    unfold Stop
    refine op_appendRd rfl _ _ _ rfl 131 _ 3 24 Try.underlying126 infoPt rfl (by omega) hS rfl h2 rfl (flatP_one l) (by simp only [maxLen]; omega) (by omega) ?_
    intro v' w1 hf1 hs1
    rw [Nat.zero_add, List.nil_append] at hs1
    obtain ⟨A1, c1, rfl⟩ := hs1.form
    go_wp2
    go_ret
    refine ⟨_, _, rfl, ?_, ((Frm.refl (fun _ => False) w).alloc _).then hf1 (fun i h hi => by omega)⟩
    exact hs1.mono (G := fun k => w.heap.size ≤ k) (by rintro k (h | h) _; omega; simp at h; omega)
/-- The clone of the counters. -/
theorem cloneN (A : Option Addr) (n c : Nat) (l : List Tn) (G : Nat → Prop) (w : World) (h : Rd w G 2 A n c (flatN l)) (hn : n ≤ 1048576) :
    Calls Try.prog 89 #[.slice A n c] w fun e w' => ∃ B d, e = .returned (.slice B n d) ∧ Sl w' (fun k => w.heap.size ≤ k) 133 2 (.slice B n d) n (flatN l) ∧ Frm (fun _ => False) w w' := by
  have hl : l.length = n := by have := h.len; rw [flatN_len] at this; omega
  rcases A with _ | a
  · obtain ⟨rfl, rfl⟩ := h.none_ rfl
    obtain rfl : l = [] := List.eq_nil_of_length_eq_zero hl
    have hq := fun w => Lib.run_eql_slice_nil (P := Try.prog) w 127 133 none 0 0 0 0 Try.underlying127
    go_enter Try.func89, Try.ntmps89
    go_wp2
    go_ret
    exact ⟨_, _, rfl, by simpa [flatN] using Sl.nil, Frm.refl _ _⟩
  · have hq := fun w => Lib.run_eql_slice_nil (P := Try.prog) w 127 133 (some a) n c 0 0 Try.underlying127
    obtain ⟨b, off, q⟩ := a
    have hS : Sl (w.alloc (.cells #[] 133)) (fun k => k = w.heap.size) 133 2 (.slice (some ⟨w.heap.size, 0, none⟩) 0 0) 0 [] := .at_ (rest := []) rfl (Blk.new w [] 133) rfl rfl (Nat.le_refl _) (by simp only [maxLen]; omega)
    have h2 := h.alloc (.cells #[] 133)
    go_enter Try.func89, Try.ntmps89
    go_wp2_with (with_reducible refine stop_at 7 rfl ?_)
    unfold Stop
    refine op_appendRd rfl _ _ _ rfl 133 _ 2 16 Try.underlying127 infoTn rfl (by omega) hS rfl h2 rfl (flatN_one l) (by simp only [maxLen]; omega) (by omega) ?_
    intro v' w1 hf1 hs1
    rw [Nat.zero_add, List.nil_append] at hs1
    obtain ⟨A1, c1, rfl⟩ := hs1.form
    go_wp2
    go_ret
    refine ⟨_, _, rfl, ?_, ((Frm.refl (fun _ => False) w).alloc _).then hf1 (fun i h hi => by omega)⟩
    exact hs1.mono (G := fun k => w.heap.size ≤ k) (by rintro k (h | h) _; omega; simp at h; omega)
theorem infoIns : (Try.prog.info? 39).map (fun i => (i.zero, i.size, i.bytes)) = some (some (.agg #[.int .i64 0, .int .i64 0, .int .i64 0, .int .i64 0, .int .i64 0, .int .i64 0, .int .u64 0, .int .u64 0, .int .u64 0, .int .u64 0]), 10, 80) := by kernel_rfl
theorem flatI_one (l : List Ins) : ∀ u ∈ flatI l, u.oneCell' = true := by
  intro u hu
  obtain ⟨p, _, hu⟩ := List.mem_flatMap.1 hu
  simp [Ins.cells] at hu
  rcases hu with rfl | rfl | rfl | rfl | rfl | rfl | rfl | rfl | rfl | rfl <;> rfl
/-- The clone of a program. -/
theorem cloneI (A : Option Addr) (n c : Nat) (l : List Ins) (G : Nat → Prop) (w : World) (h : Rd w G 10 A n c (flatI l)) (hn : n ≤ 1048576) :
    Calls Try.prog 32 #[.slice A n c] w fun e w' => ∃ B d, e = .returned (.slice B n d) ∧ Sl w' (fun k => w.heap.size ≤ k) 39 10 (.slice B n d) n (flatI l) ∧ Frm (fun _ => False) w w' := by
  have hl : l.length = n := by have := h.len; rw [flatI_len] at this; omega
  rcases A with _ | a
  · obtain ⟨rfl, rfl⟩ := h.none_ rfl
    obtain rfl : l = [] := List.eq_nil_of_length_eq_zero hl
    have hq := fun w => Lib.run_eql_slice_nil (P := Try.prog) w 22 39 none 0 0 0 0 Try.underlying22
    go_enter Try.func32, Try.ntmps32
    go_wp2
    go_ret
    exact ⟨_, _, rfl, by simpa [flatI] using Sl.nil, Frm.refl _ _⟩
  · have hq := fun w => Lib.run_eql_slice_nil (P := Try.prog) w 22 39 (some a) n c 0 0 Try.underlying22
    obtain ⟨b, off, q⟩ := a
    have hS : Sl (w.alloc (.cells #[] 39)) (fun k => k = w.heap.size) 39 10 (.slice (some ⟨w.heap.size, 0, none⟩) 0 0) 0 [] := .at_ (rest := []) rfl (Blk.new w [] 39) rfl rfl (Nat.le_refl _) (by simp only [maxLen]; omega)
    have h2 := h.alloc (.cells #[] 39)
    go_enter Try.func32, Try.ntmps32
    go_wp2_with (with_reducible refine stop_at 7 rfl ?_)
    unfold Stop
    refine op_appendRd rfl _ _ _ rfl 39 _ 10 80 Try.underlying22 infoIns rfl (by omega) hS rfl h2 rfl (flatI_one l) (by simp only [maxLen]; omega) (by omega) ?_
    intro v' w1 hf1 hs1
    rw [Nat.zero_add, List.nil_append] at hs1
    obtain ⟨A1, c1, rfl⟩ := hs1.form
    go_wp2
    go_ret
    refine ⟨_, _, rfl, ?_, ((Frm.refl (fun _ => False) w).alloc _).then hf1 (fun i h hi => by omega)⟩
    exact hs1.mono (G := fun k => w.heap.size ≤ k) (by rintro k (h | h) _; omega; simp at h; omega)
end Go.Proofs.Ytoadmpochaeohaa
end
