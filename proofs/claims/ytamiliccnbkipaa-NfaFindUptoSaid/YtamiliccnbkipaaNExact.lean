/-
  The player's footprint made exact; what 'play' computes, in plain Lean.
-/
import Derived.Test.YtamiliccnbkipaaNOwn
import Derived.Test.YtamiliccnbkipaaNPlay
import Derived.Test.YtamiliccnbkipaaNTurn
set_option linter.unusedVariables false
set_option linter.unusedSimpArgs false
namespace Go.Proofs.Ytamiliccnbkipaa
open Go.RowKit

/-- The cells that hold the player's slices. -/
def rowsOf (x bn bx : Nat) : List Addr := [⟨x, 7, none⟩, ⟨x, 8, none⟩, ⟨x, 9, none⟩, ⟨bn, 0, none⟩, ⟨bn, 1, none⟩, ⟨bx, 0, none⟩, ⟨bx, 1, none⟩]
theorem Sl.exact {w : World} {F P : Nat → Prop} {e : TypeId} {size : Nat} {v : Value} {n : Nat} {xs : List Value} (h : Sl w F e size v n xs) (hP : ∀ k c, v = .slice (some ⟨k, 0, none⟩) n c → P k) : Sl w (fun k => F k ∧ P k) e size v n xs := by
  cases h with
  | nil => exact .nil
  | at_ hF hb hx hr hn hm => exact .at_ ⟨hF, hP _ _ rfl⟩ hb hx hr hn hm
theorem MK.exact {w : World} {F P : Nat → Prop} {b room : Nat} {l : List Nat} {B : Nat} {ps : List Addr} (h : MK w F b room l) (hb : b < B) (h0 : (⟨b, 0, none⟩ : Addr) ∈ ps) (h1 : (⟨b, 1, none⟩ : Addr) ∈ ps) : MK w (fun k => F k ∧ (k < B ∨ Own ps w k)) b room l := by
  obtain ⟨vw, vl, Fw, Fl, wh, hB, hF, hW, hL, g1, g2, g3⟩ := h
  have c0 := hB.cell 0
  have c1 := hB.cell 1
  simp only [List.getElem?_cons_zero, List.getElem?_cons_succ] at c0 c1
  refine ⟨vw, vl, _, _, wh, hB, ⟨hF, .inl hb⟩, hW.exact (P := fun k => k < B ∨ Own ps w k) (fun k c e => .inr ⟨_, h0, 0, _, c, by rw [c0, e]⟩), hL.exact (P := fun k => k < B ∨ Own ps w k) (fun k c e => .inr ⟨_, h1, 0, _, c, by rw [c1, e]⟩), fun k hk => ⟨⟨(g1 k hk.1).1, hk.2⟩, (g1 k hk.1).2.1, fun hh => (g1 k hk.1).2.2 hh.1⟩, fun k hk => ⟨⟨(g2 k hk.1).1, hk.2⟩, (g2 k hk.1).2⟩, g3⟩
section
variable {w w1 : World} {F : Nat → Prop} {col : Nat → Nat} {x : Nat} {A : Option Addr} {n cp : Nat} {gr co : Int} {fo : Bool} {line : ByteArray} {bn bx : Nat} {vf vt vd : Value} {st : Int} {ln lx : List Nat} {fr th td : List Int}
theorem PL.exact {B : Nat} (h : PL w F col x A n cp gr co fo line bn bx vf vt vd st ln lx fr th td) (hx : x < B) (hbn : bn < B) (hbx : bx < B) :
    PL w (fun k => F k ∧ (k < B ∨ Own (rowsOf x bn bx) w k)) col x A n cp gr co fo line bn bx vf vt vd st ln lx fr th td := by
  obtain ⟨c0, c4, c5, c6, c7, c8, c9, c10, l0⟩ := blk11 h.b
  have sw : ∀ (c : Nat) (k : Nat), ((F k ∧ col k = c) ∧ (k < B ∨ Own (rowsOf x bn bx) w k)) → k < w.heap.size → ((F k ∧ (k < B ∨ Own (rowsOf x bn bx) w k)) ∧ col k = c) := fun c k hk _ => ⟨⟨hk.1.1, hk.2⟩, hk.1.2⟩
  refine ⟨h.b, ⟨⟨h.fx.1, .inl hx⟩, h.fx.2⟩, (h.nw.exact (P := fun k => True) hbn (by simp [rowsOf]) (by simp [rowsOf])).mono (sw 1), (h.nx.exact (P := fun k => True) hbx (by simp [rowsOf]) (by simp [rowsOf])).mono (sw 2), ?_, ?_, ?_, h.lf, h.lt⟩
  · exact (h.sf.exact (P := fun k => k < B ∨ Own (rowsOf x bn bx) w k) (fun k c e => .inr ⟨⟨x, 7, none⟩, by simp [rowsOf], 0, _, c, by rw [c7, e]⟩)).mono (sw 3)
  · exact (h.sh.exact (P := fun k => k < B ∨ Own (rowsOf x bn bx) w k) (fun k c e => .inr ⟨⟨x, 8, none⟩, by simp [rowsOf], 0, _, c, by rw [c8, e]⟩)).mono (sw 4)
  · exact (h.sd.exact (P := fun k => k < B ∨ Own (rowsOf x bn bx) w k) (fun k c e => .inr ⟨⟨x, 9, none⟩, by simp [rowsOf], 0, _, c, by rw [c9, e]⟩)).mono (sw 5)
/-- Whatever the player's slices lie in is its own. -/
theorem PL.owned (h : PL w F col x A n cp gr co fo line bn bx vf vt vd st ln lx fr th td) (k : Nat) (hk : Own (rowsOf x bn bx) w k) : F k ∧ k < w.heap.size := by
  obtain ⟨c0, c4, c5, c6, c7, c8, c9, c10, l0⟩ := blk11 h.b
  have sl : ∀ {G : Nat → Prop} {e : TypeId} {size m : Nat} {v : Value} {xs : List Value}, Sl w G e size v m xs → ∀ o n c, v = .slice (some ⟨k, o, none⟩) n c → G k ∧ k < w.heap.size := by
    intro G e size m v xs hs o n c e
    cases hs with
    | nil => cases e
    | at_ hF hb hx hr hn hm => cases e; exact ⟨hF, hb.lt⟩
  obtain ⟨a, ha, o, m, c, hc⟩ := hk
  simp only [rowsOf, List.mem_cons, List.not_mem_nil, or_false] at ha
  obtain ⟨vw, vl, Fw, Fl, wh, hB, hF, hW, hL, g1, g2, g3⟩ := h.nw
  obtain ⟨vw', vl', Fw', Fl', wh', hB', hF', hW', hL', g1', g2', g3'⟩ := h.nx
  have d0 := hB.cell 0
  have d1 := hB.cell 1
  have d0' := hB'.cell 0
  have d1' := hB'.cell 1
  simp only [List.getElem?_cons_zero, List.getElem?_cons_succ] at d0 d1 d0' d1'
  rcases ha with rfl | rfl | rfl | rfl | rfl | rfl | rfl
  · rw [c7] at hc; have := sl h.sf o m c (Option.some.inj hc); exact ⟨this.1.1, this.2⟩
  · rw [c8] at hc; have := sl h.sh o m c (Option.some.inj hc); exact ⟨this.1.1, this.2⟩
  · rw [c9] at hc; have := sl h.sd o m c (Option.some.inj hc); exact ⟨this.1.1, this.2⟩
  · rw [d0] at hc; have := sl hW o m c (Option.some.inj hc); exact ⟨(g1 k this.1).1.1, this.2⟩
  · rw [d1] at hc; have := sl hL o m c (Option.some.inj hc); exact ⟨(g2 k this.1).1.1, this.2⟩
  · rw [d0'] at hc; have := sl hW' o m c (Option.some.inj hc); exact ⟨(g1' k this.1).1.1, this.2⟩
  · rw [d1'] at hc; have := sl hL' o m c (Option.some.inj hc); exact ⟨(g2' k this.1).1.1, this.2⟩
end

/-- Is what follows too late: a part was found that began ahead of it. -/
def tooLate (b : Best) (f : Int) : Bool := match b with | some (f0, _) => decide (f0 < f) | none => false
/-- A match at a place. -/
def bestAt (b : Best) (f : Int) (at_ : Nat) : Best := match b with | none => some (f, (at_ : Int)) | some (f0, t) => if f < f0 ∨ t < (at_ : Int) then some (f, (at_ : Int)) else b
/-- One of those that are now. -/
def stepS (l : List Ins) (line : List UInt8) (at_ : Nat) (p : Nat × Int) (s : Best × List (Nat × Int)) : Best × List (Nat × Int) :=
  match l[p.1]? with
  | none => s
  | some i => if i.op = 11 then (bestAt s.1 p.2 at_, s.2)
    else if i.op = 1 then (match line[at_]? with | some c => if inSet i c then (s.1, comeL l false (at_ + 1 == line.length) p.2 (p.1 + 1) s.2) else s | none => s)
    else s
/-- The steps over what has come; none where one was too late. -/
def goS (l : List Ins) (line : List UInt8) (at_ : Nat) : List (Nat × Int) → Best × List (Nat × Int) → Option (Best × List (Nat × Int))
  | [], s => some s
  | p :: r, s => if tooLate s.1 p.2 then none else goS l line at_ r (stepS l line at_ p s)
/-- A turn over what is now, at a place. -/
def turnS (l : List Ins) (line : List UInt8) (at_ : Nat) : List (Nat × Int) → Best × List (Nat × Int) → Best × List (Nat × Int)
  | [], s => s
  | p :: r, s => if tooLate s.1 p.2 then s else turnS l line at_ r (stepS l line at_ p s)
theorem turnS_go {l : List Ins} {line : List UInt8} {at_ : Nat} : ∀ (a : List (Nat × Int)) (s s' : Best × List (Nat × Int)) (r : List (Nat × Int)), goS l line at_ a s = some s' → turnS l line at_ (a ++ r) s = turnS l line at_ r s'
  | [], s, s', r, h => by cases h; rfl
  | p :: a, s, s', r, h => by
    rw [goS] at h
    split at h
    · cases h
    · rename_i hl
      rw [List.cons_append, turnS, if_neg hl]
      exact turnS_go a _ s' r h
theorem goS_snoc {l : List Ins} {line : List UInt8} {at_ : Nat} : ∀ (a : List (Nat × Int)) (s s' : Best × List (Nat × Int)) (p : Nat × Int), goS l line at_ a s = some s' → goS l line at_ (a ++ [p]) s = if tooLate s'.1 p.2 then none else some (stepS l line at_ p s')
  | [], s, s', p, h => by cases h; rfl
  | q :: a, s, s', p, h => by
    rw [goS] at h
    split at h
    · cases h
    · rename_i hl
      rw [List.cons_append, goS, if_neg hl]
      exact goS_snoc a _ s' p h
/-- All places from one on; 'm' of them are left. -/
def playS (l : List Ins) (line : List UInt8) (every : Bool) : Nat → Nat → List (Nat × Int) → Best → Best
  | 0, at_, now, b => (turnS l line at_ now (b, [])).1
  | m + 1, at_, now, b =>
    if every && (turnS l line at_ now (b, [])).1.isNone then playS l line every m (at_ + 1) (comeL l false (at_ + 1 == line.length) ((at_ : Int) + 1) 0 (turnS l line at_ now (b, [])).2) (turnS l line at_ now (b, [])).1
    else if (turnS l line at_ now (b, [])).2 = [] then (turnS l line at_ now (b, [])).1 else playS l line every m (at_ + 1) (turnS l line at_ now (b, [])).2 (turnS l line at_ now (b, [])).1
/-- What a search from a place finds. -/
def findS (l : List Ins) (line : List UInt8) (at_ : Nat) (every : Bool) : Best :=
  playS l line every (line.length - at_) at_ (comeL l (at_ == 0) (at_ == line.length) at_ 0 []) none
end Go.Proofs.Ytamiliccnbkipaa
