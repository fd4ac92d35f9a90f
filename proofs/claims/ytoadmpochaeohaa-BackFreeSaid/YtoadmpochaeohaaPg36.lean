/-
  'turn' and 'has', walked.
-/
import Derived.Test.YtoadmpochaeohaaPg34
section
set_option linter.unusedVariables false
set_option linter.unusedSimpArgs false
set_option maxRecDepth 100000
namespace Go.Proofs.Ytoadmpochaeohaa
open Go.RowKit

def swapC (c : Nat) : Nat := if c = 1 then 2 else if c = 2 then 1 else if c = 3 then 4 else if c = 4 then 3 else c
set_option maxHeartbeats 1600000 in
set_option maxRecDepth 100000 in
theorem turn (F : Nat → Prop) (col : Nat → Nat) (x : Nat) (A : Option Addr) (n cp : Nat) (gr co : Int) (fo : Bool) (line : ByteArray) (bn bx : Nat) (vf vt vd : Value) (st : Int) (ln lx : List Nat) (fr th td : List Int) (w : World)
    (h : PL w F col x A n cp gr co fo line bn bx vf vt vd st ln lx fr th td) :
    Calls Try.prog 60 #[.pointer (some ⟨x, 0, none⟩)] w fun e w' => e = .returned (.tuple #[]) ∧ PL w' F (fun k => swapC (col k)) x A n cp gr co fo line bx bn vt vf vd st lx [] th fr td ∧ Frm F w w' := by
  obtain ⟨c0, c4, c5, c6, c7, c8, c9, c10, l0⟩ := blk11 h.b
  obtain ⟨z5, z6, z7, z8, z9, z10⟩ := frz11 h.b
  obtain ⟨Af, cf, rfl⟩ := h.sf.form
  obtain ⟨At, ct, rfl⟩ := h.sh.form
  have hx := h.fx
  go_enter Try.func60, Try.ntmps60
  go_wp2_with fail
  go_region
  all_goals
    have hB1 := ((h.b.setSame 5 (.pointer (some ⟨bx, 0, none⟩))).setSame 6 (.pointer (some ⟨bn, 0, none⟩))).drew
    have hf1 : Frm (fun k => k = x) w (((w.setCell ⟨x, 5, none⟩ (.pointer (some ⟨bx, 0, none⟩))).setCell ⟨x, 6, none⟩ (.pointer (some ⟨bn, 0, none⟩))).drew) := (((Frm.refl (fun k => k = x) w).set x 5 _ (fun _ => rfl)).set x 6 _ (fun _ => rfl)).drew
    clear c0 c4 c5 c6 c7 c8 c9 c10 z5 z6 z7 z8 z9 z10
    go_wp2_with fail
    generalize ((w.setCell ⟨x, 5, none⟩ (.pointer (some ⟨bx, 0, none⟩))).setCell ⟨x, 6, none⟩ (.pointer (some ⟨bn, 0, none⟩))).drew = w1 at *
    obtain ⟨c0, c4, c5, c6, c7, c8, c9, c10, l1⟩ := blk11 hB1
    obtain ⟨z5, z6, z7, z8, z9, z10⟩ := frz11 hB1
    go_region
    all_goals
      have hB2 := ((hB1.setSame 7 (.slice At n ct)).setSame 8 (.slice Af n cf)).drew
      have hf2 : Frm (fun k => k = x) w1 (((w1.setCell ⟨x, 7, none⟩ (.slice At n ct)).setCell ⟨x, 8, none⟩ (.slice Af n cf)).drew) := (((Frm.refl (fun k => k = x) w1).set x 7 _ (fun _ => rfl)).set x 8 _ (fun _ => rfl)).drew
      clear c0 c4 c5 c6 c7 c8 c9 c10 z5 z6 z7 z8 z9 z10
      generalize ((w1.setCell ⟨x, 7, none⟩ (.slice At n ct)).setCell ⟨x, 8, none⟩ (.slice Af n cf)).drew = w2 at *
      obtain ⟨c0, c4, c5, c6, c7, c8, c9, c10, l1⟩ := blk11 hB2
      have hf := hf1.trans hf2
      have no : ∀ (c : Nat), 1 ≤ c → ∀ k, (F k ∧ col k = c) → ¬ (k = x) := fun c hc k hk e => by subst e; omega
      have hm2 := h.nw.frm hf (no 1 (by omega))
      go_wp2_with fail
      refine (clearM _ bn n ln w2 hm2).mono ?_
      rintro e w3 ⟨rfl, hm3, hf3⟩
      have hbn : F bn ∧ col bn = 1 := by
        obtain ⟨vw, vl, Fw, Fl, wh, hB, hF, _⟩ := h.nw
        exact hF
      have n1 : ∀ (c : Nat), c ≠ 1 → ∀ k, (F k ∧ col k = c) → ¬ (k = bn) := fun c hc k hk e => by subst e; omega
      go_wp2
      go_end0
      have sw : ∀ (c d : Nat), swapC c = d → ∀ k, (F k ∧ col k = c) → k < w3.heap.size → (F k ∧ swapC (col k) = d) := fun c d hcd k hk _ => ⟨hk.1, by rw [hk.2]; exact hcd⟩
      refine ⟨rfl, ⟨hB2.frm hf3 (fun e => by subst e; omega), ⟨hx.1, by show swapC (col x) = 0; rw [hx.2]; rfl⟩, ?_, hm3.mono (sw 1 2 rfl), ?_, ?_, ?_, h.lt, h.lf⟩, ?_⟩
      · exact ((h.nx.frm hf (no 2 (by omega))).frm hf3 (n1 2 (by omega))).mono (sw 2 1 rfl)
      · exact ((h.sh.frm hf (no 4 (by omega))).frm hf3 (n1 4 (by omega))).mono (sw 4 3 rfl)
      · exact ((h.sf.frm hf (no 3 (by omega))).frm hf3 (n1 3 (by omega))).mono (sw 3 4 rfl)
      · exact ((h.sd.frm hf (no 5 (by omega))).frm hf3 (n1 5 (by omega))).mono (sw 5 5 rfl)
      · exact (hf.mono (fun i e _ => e ▸ hx.1)).then hf3 (fun i e _ => e ▸ hbn.1)

/-- Is a byte in an instruction's set? -/
def inSet (i : Ins) (c : UInt8) : Bool :=
  bits BinOp.and IntKind.u64 ((if c.toNat / 64 = 0 then i.s0 else if c.toNat / 64 = 1 then i.s1 else if c.toNat / 64 = 2 then i.s2 else i.s3) / 2 ^ (c.toNat % 64)) 1 == 1

set_option maxHeartbeats 1600000 in
theorem hasS (i : Ins) (c : UInt8) (w : World) : Calls Try.prog 62 #[.agg #[.int .u64 i.s0, .int .u64 i.s1, .int .u64 i.s2, .int .u64 i.s3], .int .u8 c.toNat] w fun e w' => e = .returned (.bool (inSet i c)) ∧ w' = w.alloc (.cells #[.int .u64 i.s0, .int .u64 i.s1, .int .u64 i.s2, .int .u64 i.s3] 37) := by
  have hc := c.toNat_lt
  have hB := Blk.new w [.int .u64 i.s0, .int .u64 i.s1, .int .u64 i.s2, .int .u64 i.s3] 37
  have b0 := hB.cell 0
  have b1 := hB.cell 1
  have b2 := hB.cell 2
  have b3 := hB.cell 3
  simp only [List.getElem?_cons_zero, List.getElem?_cons_succ] at b0 b1 b2 b3
  go_enter Try.func62, Try.ntmps62
  go_upto_region 1 with fail
  generalize hw : w.alloc (.cells #[.int .u64 i.s0, .int .u64 i.s1, .int .u64 i.s2, .int .u64 i.s3] 37) = w1 at *
  have HW := Lib.hid hw
  clear hw
  generalize w.heap.size = b at *
  have hq : c.toNat / 64 = 0 ∨ c.toNat / 64 = 1 ∨ c.toNat / 64 = 2 ∨ c.toNat / 64 = 3 := by omega
  rcases hq with hq | hq | hq | hq
  all_goals
    go_wp2_with fail
    go_ret
    exact ⟨by simp [inSet, hq], HW.out.symm⟩
end Go.Proofs.Ytoadmpochaeohaa
end

section
set_option linter.unusedVariables false
set_option linter.unusedSimpArgs false
set_option maxRecDepth 100000
namespace Go.Proofs.Ytoadmpochaeohaa
open Go.RowKit

/-- The cells that hold the player's slices. -/
def rowsOf (x bn bx : Nat) : List Addr := [⟨x, 7, none⟩, ⟨x, 8, none⟩, ⟨x, 9, none⟩, ⟨bn, 0, none⟩, ⟨bn, 1, none⟩, ⟨bx, 0, none⟩, ⟨bx, 1, none⟩]
theorem Sl.exact {w : World} {F P : Nat → Prop} {e : TypeId} {size : Nat} {v : Value} {n : Nat} {xs : List Value} (h : Sl w F e size v n xs) (hP : ∀ k c, v = .slice (some ⟨k, 0, none⟩) n c → P k) : Sl w (fun k => F k ∧ P k) e size v n xs := by
  cases h with
  | nil => exact .nil
  | at_ hF hb hx hr hn hm => exact .at_ ⟨hF, hP _ _ rfl⟩ hb hx hr hn hm
theorem MK.exact {w : World} {F P : Nat → Prop} {b room : Nat} {l : List Nat} {B : Nat} {ps : List Addr} (h : MK w F b room l) (hb : b < B) (h0 : (⟨b, 0, none⟩ : Addr) ∈ ps) (h1 : (⟨b, 1, none⟩ : Addr) ∈ ps) : MK w (fun k => F k ∧ (k < B ∨ Own ps w k)) b room l := by
  obtain ⟨vw, vl, Fw, Fl, wh, hB, hF, hW, hL, g1, g2, g3⟩ := h
  have c0 := hB.cell 0
  have c1 := hB.cell 1
  simp only [List.getElem?_cons_zero, List.getElem?_cons_succ] at c0 c1
  refine ⟨vw, vl, _, _, wh, hB, ⟨hF, .inl hb⟩, hW.exact (P := fun k => k < B ∨ Own ps w k) (fun k c e => .inr ⟨_, h0, 0, _, c, by rw [c0, e]⟩), hL.exact (P := fun k => k < B ∨ Own ps w k) (fun k c e => .inr ⟨_, h1, 0, _, c, by rw [c1, e]⟩), fun k hk => ⟨⟨(g1 k hk.1).1, hk.2⟩, (g1 k hk.1).2.1, fun hh => (g1 k hk.1).2.2 hh.1⟩, fun k hk => ⟨⟨(g2 k hk.1).1, hk.2⟩, (g2 k hk.1).2⟩, g3⟩
section
variable {w w1 : World} {F : Nat → Prop} {col : Nat → Nat} {x : Nat} {A : Option Addr} {n cp : Nat} {gr co : Int} {fo : Bool} {line : ByteArray} {bn bx : Nat} {vf vt vd : Value} {st : Int} {ln lx : List Nat} {fr th td : List Int}
theorem PL.exact {B : Nat} (h : PL w F col x A n cp gr co fo line bn bx vf vt vd st ln lx fr th td) (hx : x < B) (hbn : bn < B) (hbx : bx < B) :
    PL w (fun k => F k ∧ (k < B ∨ Own (rowsOf x bn bx) w k)) col x A n cp gr co fo line bn bx vf vt vd st ln lx fr th td := by
  obtain ⟨c0, c4, c5, c6, c7, c8, c9, c10, l0⟩ := blk11 h.b
  have sw : ∀ (c : Nat) (k : Nat), ((F k ∧ col k = c) ∧ (k < B ∨ Own (rowsOf x bn bx) w k)) → k < w.heap.size → ((F k ∧ (k < B ∨ Own (rowsOf x bn bx) w k)) ∧ col k = c) := fun c k hk _ => ⟨⟨hk.1.1, hk.2⟩, hk.1.2⟩
  refine ⟨h.b, ⟨⟨h.fx.1, .inl hx⟩, h.fx.2⟩, (h.nw.exact (P := fun k => True) hbn (by simp [rowsOf]) (by simp [rowsOf])).mono (sw 1), (h.nx.exact (P := fun k => True) hbx (by simp [rowsOf]) (by simp [rowsOf])).mono (sw 2), ?_, ?_, ?_, h.lf, h.lt⟩
  · exact (h.sf.exact (P := fun k => k < B ∨ Own (rowsOf x bn bx) w k) (fun k c e => .inr ⟨⟨x, 7, none⟩, by simp [rowsOf], 0, _, c, by rw [c7, e]⟩)).mono (sw 3)
  · exact (h.sh.exact (P := fun k => k < B ∨ Own (rowsOf x bn bx) w k) (fun k c e => .inr ⟨⟨x, 8, none⟩, by simp [rowsOf], 0, _, c, by rw [c8, e]⟩)).mono (sw 4)
  · exact (h.sd.exact (P := fun k => k < B ∨ Own (rowsOf x bn bx) w k) (fun k c e => .inr ⟨⟨x, 9, none⟩, by simp [rowsOf], 0, _, c, by rw [c9, e]⟩)).mono (sw 5)
/-- Whatever the player's slices lie in is its own. -/
theorem PL.owned (h : PL w F col x A n cp gr co fo line bn bx vf vt vd st ln lx fr th td) (k : Nat) (hk : Own (rowsOf x bn bx) w k) : F k ∧ k < w.heap.size := by
  obtain ⟨c0, c4, c5, c6, c7, c8, c9, c10, l0⟩ := blk11 h.b
  have sl : ∀ {G : Nat → Prop} {e : TypeId} {size m : Nat} {v : Value} {xs : List Value}, Sl w G e size v m xs → ∀ o n c, v = .slice (some ⟨k, o, none⟩) n c → G k ∧ k < w.heap.size := by
    intro G e size m v xs hs o n c e
    cases hs with
    | nil => cases e
    | at_ hF hb hx hr hn hm => cases e; exact ⟨hF, hb.lt⟩
  obtain ⟨a, ha, o, m, c, hc⟩ := hk
  simp only [rowsOf, List.mem_cons, List.not_mem_nil, or_false] at ha
  obtain ⟨vw, vl, Fw, Fl, wh, hB, hF, hW, hL, g1, g2, g3⟩ := h.nw
  obtain ⟨vw', vl', Fw', Fl', wh', hB', hF', hW', hL', g1', g2', g3'⟩ := h.nx
  have d0 := hB.cell 0
  have d1 := hB.cell 1
  have d0' := hB'.cell 0
  have d1' := hB'.cell 1
  simp only [List.getElem?_cons_zero, List.getElem?_cons_succ] at d0 d1 d0' d1'
  rcases ha with rfl | rfl | rfl | rfl | rfl | rfl | rfl
  · rw [c7] at hc; have := sl h.sf o m c (Option.some.inj hc); exact ⟨this.1.1, this.2⟩
  · rw [c8] at hc; have := sl h.sh o m c (Option.some.inj hc); exact ⟨this.1.1, this.2⟩
  · rw [c9] at hc; have := sl h.sd o m c (Option.some.inj hc); exact ⟨this.1.1, this.2⟩
  · rw [d0] at hc; have := sl hW o m c (Option.some.inj hc); exact ⟨(g1 k this.1).1.1, this.2⟩
  · rw [d1] at hc; have := sl hL o m c (Option.some.inj hc); exact ⟨(g2 k this.1).1.1, this.2⟩
  · rw [d0'] at hc; have := sl hW' o m c (Option.some.inj hc); exact ⟨(g1' k this.1).1.1, this.2⟩
  · rw [d1'] at hc; have := sl hL' o m c (Option.some.inj hc); exact ⟨(g2' k this.1).1.1, this.2⟩
end

/-- Is what follows too late: a part was found that began ahead of it. -/
def tooLate (b : Best) (f : Int) : Bool := match b with | some (f0, _) => decide (f0 < f) | none => false
/-- A match at a place. -/
def bestAt (b : Best) (f : Int) (at_ : Nat) : Best := match b with | none => some (f, (at_ : Int)) | some (f0, t) => if f < f0 ∨ t < (at_ : Int) then some (f, (at_ : Int)) else b
/-- One of those that are now. -/
def stepS (l : List Ins) (line : List UInt8) (at_ : Nat) (p : Nat × Int) (s : Best × List (Nat × Int)) : Best × List (Nat × Int) :=
  match l[p.1]? with
  | none => s
  | some i => if i.op = 11 then (bestAt s.1 p.2 at_, s.2)
    else if i.op = 1 then (match line[at_]? with | some c => if inSet i c then (s.1, comeL l false (at_ + 1 == line.length) p.2 (p.1 + 1) s.2) else s | none => s)
    else s
/-- The steps over what has come; none where one was too late. -/
def goS (l : List Ins) (line : List UInt8) (at_ : Nat) : List (Nat × Int) → Best × List (Nat × Int) → Option (Best × List (Nat × Int))
  | [], s => some s
  | p :: r, s => if tooLate s.1 p.2 then none else goS l line at_ r (stepS l line at_ p s)
/-- A turn over what is now, at a place. -/
def turnNS (l : List Ins) (line : List UInt8) (at_ : Nat) : List (Nat × Int) → Best × List (Nat × Int) → Best × List (Nat × Int)
  | [], s => s
  | p :: r, s => if tooLate s.1 p.2 then s else turnNS l line at_ r (stepS l line at_ p s)
theorem turnS_go {l : List Ins} {line : List UInt8} {at_ : Nat} : ∀ (a : List (Nat × Int)) (s s' : Best × List (Nat × Int)) (r : List (Nat × Int)), goS l line at_ a s = some s' → turnNS l line at_ (a ++ r) s = turnNS l line at_ r s'
  | [], s, s', r, h => by cases h; rfl
  | p :: a, s, s', r, h => by
    rw [goS] at h
    split at h
    · cases h
    · rename_i hl
      rw [List.cons_append, turnNS, if_neg hl]
      exact turnS_go a _ s' r h
theorem goS_snoc {l : List Ins} {line : List UInt8} {at_ : Nat} : ∀ (a : List (Nat × Int)) (s s' : Best × List (Nat × Int)) (p : Nat × Int), goS l line at_ a s = some s' → goS l line at_ (a ++ [p]) s = if tooLate s'.1 p.2 then none else some (stepS l line at_ p s')
  | [], s, s', p, h => by cases h; rfl
  | q :: a, s, s', p, h => by
    rw [goS] at h
    split at h
    · cases h
    · rename_i hl
      rw [List.cons_append, goS, if_neg hl]
      exact goS_snoc a _ s' p h
/-- All places from one on; 'm' of them are left. -/
def playS (l : List Ins) (line : List UInt8) (every : Bool) : Nat → Nat → List (Nat × Int) → Best → Best
  | 0, at_, now, b => (turnNS l line at_ now (b, [])).1
  | m + 1, at_, now, b =>
    if every && (turnNS l line at_ now (b, [])).1.isNone then playS l line every m (at_ + 1) (comeL l false (at_ + 1 == line.length) ((at_ : Int) + 1) 0 (turnNS l line at_ now (b, [])).2) (turnNS l line at_ now (b, [])).1
    else if (turnNS l line at_ now (b, [])).2 = [] then (turnNS l line at_ now (b, [])).1 else playS l line every m (at_ + 1) (turnNS l line at_ now (b, [])).2 (turnNS l line at_ now (b, [])).1
/-- What a search from a place finds. -/
def findS (l : List Ins) (line : List UInt8) (at_ : Nat) (every : Bool) : Best :=
  playS l line every (line.length - at_) at_ (comeL l (at_ == 0) (at_ == line.length) at_ 0 []) none
end Go.Proofs.Ytoadmpochaeohaa
end

section
set_option linter.unusedVariables false
set_option linter.unusedSimpArgs false
set_option maxRecDepth 100000
namespace Go.Proofs.Ytoadmpochaeohaa
open Go.RowKit

section
variable {l : List Ins} {b0 b1 : Bool} {fm : Int}
theorem comeP_keeps : ∀ (f : Nat) (st : List Nat) (np : List (Nat × Int)) (p : Nat × Int), p ∈ np → p ∈ comeP l b0 b1 fm f st np
  | 0, _, np, p, h => h
  | _ + 1, [], np, p, h => h
  | f + 1, k :: st, np, p, h => by
    rw [comeP]
    split
    · exact comeP_keeps f st np p h
    · exact comeP_keeps f _ _ p (List.mem_append_left _ h)
theorem comeP_from : ∀ (f : Nat) (st : List Nat) (np : List (Nat × Int)) (p : Nat × Int), p ∈ comeP l b0 b1 fm f st np → p ∈ np ∨ p.2 = fm
  | 0, _, np, p, h => .inl h
  | _ + 1, [], np, p, h => .inl h
  | f + 1, k :: st, np, p, h => by
    rw [comeP] at h
    split at h
    · exact comeP_from f st np p h
    · rcases comeP_from f _ _ p h with h | h
      · rcases List.mem_append.1 h with h | h
        · exact .inl h
        · rw [List.mem_singleton.1 h]; exact .inr rfl
      · exact .inr h
/-- Nothing comes that is not led to. -/
theorem comeP_within {C : Nat → Prop} (hC : ∀ k, C k → ∀ j ∈ succs l b0 b1 k, C j) : ∀ (f : Nat) (st : List Nat) (np : List (Nat × Int)), (∀ j ∈ st, C j) → ∀ p ∈ comeP l b0 b1 fm f st np, p ∈ np ∨ C p.1
  | 0, _, np, _, p, h => .inl h
  | _ + 1, [], np, _, p, h => .inl h
  | f + 1, k :: st, np, hs, p, h => by
    rw [comeP] at h
    split at h
    · exact comeP_within hC f st np (fun j hj => hs j (List.mem_cons_of_mem _ hj)) p h
    · rcases comeP_within hC f _ _ (fun j hj => by
        rcases List.mem_append.1 hj with hj | hj
        · exact hC k (hs k List.mem_cons_self) j hj
        · exact hs j (List.mem_cons_of_mem _ hj)) p h with h | h
      · rcases List.mem_append.1 h with h | h
        · exact .inl h
        · rw [List.mem_singleton.1 h]; exact .inr (hs k List.mem_cons_self)
      · exact .inr h
/-- All comes that is led to. -/
theorem comeP_closed (hfi : Fine l) : ∀ (f : Nat) (st : List Nat) (np : List (Nat × Int)), (np.map Prod.fst).Nodup → (∀ p ∈ np, p.1 < l.length) → (∀ j ∈ st, j < l.length) → 3 * (l.length - np.length) + st.length ≤ f →
    (∀ j ∈ st, j ∈ (comeP l b0 b1 fm f st np).map Prod.fst) ∧ ∀ k ∈ (comeP l b0 b1 fm f st np).map Prod.fst, k ∉ np.map Prod.fst → ∀ j ∈ succs l b0 b1 k, j ∈ (comeP l b0 b1 fm f st np).map Prod.fst
  | 0, st, np, hd, hn, hs, hf => by
    have : st = [] := List.eq_nil_of_length_eq_zero (by omega)
    subst this
    exact ⟨fun j hj => (by cases hj), fun k h1 h2 => absurd h1 h2⟩
  | f + 1, [], np, hd, hn, hs, hf => ⟨fun j hj => (by cases hj), fun k h1 h2 => absurd h1 h2⟩
  | f + 1, k :: st, np, hd, hn, hs, hf => by
    rw [List.length_cons] at hf
    rw [comeP]
    split
    · rename_i hk
      obtain ⟨h1, h2⟩ := comeP_closed hfi f st np hd hn (fun j hj => hs j (List.mem_cons_of_mem _ hj)) (by omega)
      refine ⟨fun j hj => ?_, h2⟩
      rcases List.mem_cons.1 hj with rfl | hj
      · obtain ⟨p, hp, e⟩ := List.mem_map.1 hk
        exact List.mem_map.2 ⟨p, comeP_keeps f st np p hp, e⟩
      · exact h1 j hj
    · rename_i hk
      have hkl := hs k List.mem_cons_self
      have hd2 : ((np ++ [(k, fm)]).map Prod.fst).Nodup := by
        rw [List.map_append]
        exact List.nodup_append.2 ⟨hd, by simp, fun a ha b hb => by simp at hb; subst hb; exact fun e => hk (e ▸ ha)⟩
      have hlen := pigeon l.length _ hd2 (fun j hj => by
        obtain ⟨p, hp, rfl⟩ := List.mem_map.1 hj
        rcases List.mem_append.1 hp with hp | hp
        · exact hn p hp
        · rw [List.mem_singleton.1 hp]; exact hkl)
      rw [List.length_map, List.length_append, List.length_singleton] at hlen
      have hsl := succs_len l b0 b1 k
      obtain ⟨h1, h2⟩ := comeP_closed hfi f (succs l b0 b1 k ++ st) (np ++ [(k, fm)]) hd2 (fun p hp => by
        rcases List.mem_append.1 hp with hp | hp
        · exact hn p hp
        · rw [List.mem_singleton.1 hp]; exact hkl) (fun j hj => by
        rcases List.mem_append.1 hj with hj | hj
        · exact succs_lt hfi b0 b1 k j hj
        · exact hs j (List.mem_cons_of_mem _ hj)) (by rw [List.length_append, List.length_append, List.length_singleton]; omega)
      refine ⟨fun j hj => ?_, fun i hi hni j hj => ?_⟩
      · rcases List.mem_cons.1 hj with rfl | hj
        · exact List.mem_map.2 ⟨(j, fm), comeP_keeps f _ _ _ (List.mem_append_right _ (List.mem_singleton.2 rfl)), rfl⟩
        · exact h1 j (List.mem_append_right _ hj)
      · by_cases hik : i = k
        · subst hik
          exact h1 j (List.mem_append_left _ hj)
        · refine h2 i hi (fun h => ?_) j hj
          rw [List.map_append] at h
          rcases List.mem_append.1 h with h | h
          · exact hni h
          · simp at h; exact hik h
end
end Go.Proofs.Ytoadmpochaeohaa
end

section
set_option linter.unusedVariables false
set_option linter.unusedSimpArgs false
set_option maxRecDepth 100000
namespace Go.Proofs.Ytoadmpochaeohaa
variable {l : List Ins} {line : List UInt8}
end Go.Proofs.Ytoadmpochaeohaa
end
