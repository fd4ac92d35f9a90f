/-
  The player: what it holds; 'come'.
-/
import Derived.Test.YtoadmpochaeohaaNSpec
set_option linter.unusedVariables false
set_option linter.unusedSimpArgs false
set_option maxRecDepth 100000
namespace Go.Proofs.Ytoadmpochaeohaa
open Go.RowKit

theorem blk11 {w : World} {g : Nat} {a0 a1 a2 a3 a4 a5 a6 a7 a8 a9 a10 : Value} {t : TypeId} (h : Blk w g [a0, a1, a2, a3, a4, a5, a6, a7, a8, a9, a10] t) :
    w.cell? ⟨g, 0, none⟩ = some a0 ∧ w.cell? ⟨g, 4, none⟩ = some a4 ∧ w.cell? ⟨g, 5, none⟩ = some a5 ∧ w.cell? ⟨g, 6, none⟩ = some a6 ∧ w.cell? ⟨g, 7, none⟩ = some a7 ∧ w.cell? ⟨g, 8, none⟩ = some a8 ∧ w.cell? ⟨g, 9, none⟩ = some a9 ∧ w.cell? ⟨g, 10, none⟩ = some a10 ∧ g < w.heap.size :=
  ⟨h.cell 0, h.cell 4, h.cell 5, h.cell 6, h.cell 7, h.cell 8, h.cell 9, h.cell 10, h.lt⟩
theorem frz11 {w : World} {g : Nat} {l : List Value} {t : TypeId} (h : Blk w g l t) : w.frozen? ⟨g, 5, none⟩ = false ∧ w.frozen? ⟨g, 6, none⟩ = false ∧ w.frozen? ⟨g, 7, none⟩ = false ∧ w.frozen? ⟨g, 8, none⟩ = false ∧ w.frozen? ⟨g, 9, none⟩ = false ∧ w.frozen? ⟨g, 10, none⟩ = false :=
  ⟨h.frozen 5, h.frozen 6, h.frozen 7, h.frozen 8, h.frozen 9, h.frozen 10⟩

/-- The player at block x: its program's list is A, n; the line; the sets; of each number where its part began. 'col' parts what it owns: 1 now, 2 next, 3 from, 4 then, 5 todo. -/
structure PL (w : World) (F : Nat → Prop) (col : Nat → Nat) (x : Nat) (A : Option Addr) (n cp : Nat) (gr co : Int) (fo : Bool) (line : ByteArray) (bn bx : Nat) (vf vt vd : Value) (st : Int) (ln lx : List Nat) (fr th td : List Int) : Prop where
  b : Blk w x [.slice A n cp, .int .i64 gr, .int .i64 co, .bool fo, .string line, .pointer (some ⟨bn, 0, none⟩), .pointer (some ⟨bx, 0, none⟩), vf, vt, vd, .int .i64 st] 99
  fx : F x ∧ col x = 0
  nw : MK w (fun k => F k ∧ col k = 1) bn n ln
  nx : MK w (fun k => F k ∧ col k = 2) bx n lx
  sf : Sl w (fun k => F k ∧ col k = 3) 3 1 vf n (fr.map I64)
  sh : Sl w (fun k => F k ∧ col k = 4) 3 1 vt n (th.map I64)
  sd : Sl w (fun k => F k ∧ col k = 5) 3 1 vd td.length (td.map I64)
  lf : fr.length = n
  lt : th.length = n

section
variable {w w1 : World} {F : Nat → Prop} {col : Nat → Nat} {x : Nat} {A : Option Addr} {n cp : Nat} {gr co : Int} {fo : Bool} {line : ByteArray} {bn bx : Nat} {vf vt vd : Value} {st : Int} {ln lx : List Nat} {fr th td : List Int}
theorem PL.frm {S : Nat → Prop} (h : PL w F col x A n cp gr co fo line bn bx vf vt vd st ln lx fr th td) (f : Frm S w w1) (hd : ∀ k, F k → ¬ S k) : PL w1 F col x A n cp gr co fo line bn bx vf vt vd st ln lx fr th td :=
  ⟨h.b.frm f (hd _ h.fx.1), h.fx, h.nw.frm f (fun k hk => hd k hk.1), h.nx.frm f (fun k hk => hd k hk.1), h.sf.frm f (fun k hk => hd k hk.1), h.sh.frm f (fun k hk => hd k hk.1), h.sd.frm f (fun k hk => hd k hk.1), h.lf, h.lt⟩
theorem PL.low (h : PL w F col x A n cp gr co fo line bn bx vf vt vd st ln lx fr th td) : PL w (fun k => F k ∧ k < w.heap.size) col x A n cp gr co fo line bn bx vf vt vd st ln lx fr th td :=
  ⟨h.b, ⟨⟨h.fx.1, h.b.lt⟩, h.fx.2⟩, h.nw.low.mono (fun k hk _ => ⟨⟨hk.1.1, hk.2⟩, hk.1.2⟩), h.nx.low.mono (fun k hk _ => ⟨⟨hk.1.1, hk.2⟩, hk.1.2⟩), h.sf.low.mono (fun k hk _ => ⟨⟨hk.1.1, hk.2⟩, hk.1.2⟩), h.sh.low.mono (fun k hk _ => ⟨⟨hk.1.1, hk.2⟩, hk.1.2⟩), h.sd.low.mono (fun k hk _ => ⟨⟨hk.1.1, hk.2⟩, hk.1.2⟩), h.lf, h.lt⟩
/-- The number of steps is stored. -/
theorem PL.steps (h : PL w F col x A n cp gr co fo line bn bx vf vt vd st ln lx fr th td) (st' : Int) : PL (w.setCell ⟨x, 10, none⟩ (.int .i64 st')) F col x A n cp gr co fo line bn bx vf vt vd st' ln lx fr th td := by
  have f : Frm (fun k => k = x) w (w.setCell ⟨x, 10, none⟩ (.int .i64 st')) := (Frm.refl (fun k => k = x) w).set x 10 _ (fun _ => rfl)
  have hx := h.fx.2
  have no : ∀ (c : Nat), 1 ≤ c → ∀ k, (F k ∧ col k = c) → ¬ (k = x) := fun c hc k hk e => by subst e; omega
  exact ⟨h.b.setSame 10 _, h.fx, h.nw.frm f (no 1 (by omega)), h.nx.frm f (no 2 (by omega)), h.sf.frm f (no 3 (by omega)), h.sh.frm f (no 4 (by omega)), h.sd.frm f (no 5 (by omega)), h.lf, h.lt⟩
/-- A new list to go over is stored, laid in blocks of its own. -/
theorem PL.todo {F' : Nat → Prop} {col' : Nat → Nat} {td' : List Int} {vd' : Value} {w2 : World} {S : Nat → Prop} (h : PL w F col x A n cp gr co fo line bn bx vf vt vd st ln lx fr th td) (f : Frm S w w2) (hS : ∀ k, S k → F k → col k = 5)
    (ht : Sl w2 (fun k => F' k ∧ col' k = 5) 3 1 vd' td'.length (td'.map I64)) (hF : ∀ k, F k → k < w.heap.size → F' k ∧ col' k = col k) : PL (w2.setCell ⟨x, 9, none⟩ vd') F' col' x A n cp gr co fo line bn bx vf vt vd' st ln lx fr th td' := by
  have hl := h.low
  have hxl := h.b.lt
  have f2 : Frm (fun k => k = x) w2 (w2.setCell ⟨x, 9, none⟩ vd') := (Frm.refl (fun k => k = x) w2).set x 9 _ (fun _ => rfl)
  have hx := h.fx.2
  have nS : ∀ (c : Nat), c ≠ 5 → ∀ k, ((F k ∧ k < w.heap.size) ∧ col k = c) → ¬ S k := fun c hc k hk hs => by have := hS k hs hk.1.1; omega
  have no : ∀ (c : Nat), 1 ≤ c → ∀ k, ((F k ∧ k < w.heap.size) ∧ col k = c) → ¬ (k = x) := fun c hc k hk e => by subst e; omega
  have hx' := hF x h.fx.1 hxl
  have hb2 := h.b.frm f (fun hs => by have := hS x hs h.fx.1; omega)
  refine ⟨hb2.setSame 9 vd', ⟨hx'.1, by rw [hx'.2]; exact hx⟩, ?_, ?_, ?_, ?_, ht.set x 9 vd' (fun hk => by have := hk.2; rw [hx'.2] at this; omega), h.lf, h.lt⟩
  · exact ((hl.nw.frm f (nS 1 (by omega))).frm f2 (no 1 (by omega))).mono (fun k hk _ => ⟨(hF k hk.1.1 hk.1.2).1, by rw [(hF k hk.1.1 hk.1.2).2]; exact hk.2⟩)
  · exact ((hl.nx.frm f (nS 2 (by omega))).frm f2 (no 2 (by omega))).mono (fun k hk _ => ⟨(hF k hk.1.1 hk.1.2).1, by rw [(hF k hk.1.1 hk.1.2).2]; exact hk.2⟩)
  · exact ((hl.sf.frm f (nS 3 (by omega))).frm f2 (no 3 (by omega))).mono (fun k hk _ => ⟨(hF k hk.1.1 hk.1.2).1, by rw [(hF k hk.1.1 hk.1.2).2]; exact hk.2⟩)
  · exact ((hl.sh.frm f (nS 4 (by omega))).frm f2 (no 4 (by omega))).mono (fun k hk _ => ⟨(hF k hk.1.1 hk.1.2).1, by rw [(hF k hk.1.1 hk.1.2).2]; exact hk.2⟩)
/-- A step on 'next'. -/
theorem PL.next {lx' : List Nat} (h : PL w F col x A n cp gr co fo line bn bx vf vt vd st ln lx fr th td) (f : Frm (fun k => F k ∧ col k = 2) w w1) (hm : MK w1 (fun k => (F k ∧ col k = 2) ∨ w.heap.size ≤ k) bx n lx') :
    PL w1 (fun k => F k ∨ w.heap.size ≤ k) (fun k => if k < w.heap.size then col k else 2) x A n cp gr co fo line bn bx vf vt vd st ln lx' fr th td := by
  have hl := h.low
  have hxl := h.b.lt
  have hx := h.fx.2
  have key : ∀ (c : Nat), c ≠ 2 → ∀ k, ((F k ∧ k < w.heap.size) ∧ col k = c) → ¬ (F k ∧ col k = 2) := fun c hc k hk hs => by omega
  have up : ∀ (c : Nat), ∀ k, ((F k ∧ k < w.heap.size) ∧ col k = c) → k < w1.heap.size → ((F k ∨ w.heap.size ≤ k) ∧ (if k < w.heap.size then col k else 2) = c) := fun c k hk _ => ⟨.inl hk.1.1, by rw [if_pos hk.1.2]; exact hk.2⟩
  refine ⟨h.b.frm f (fun hs => by omega), ⟨.inl h.fx.1, by rw [if_pos hxl]; exact hx⟩, (hl.nw.frm f (key 1 (by omega))).mono (up 1), hm.mono (fun k hk _ => ?_), (hl.sf.frm f (key 3 (by omega))).mono (up 3), (hl.sh.frm f (key 4 (by omega))).mono (up 4), (hl.sd.frm f (key 5 (by omega))).mono (up 5), h.lf, h.lt⟩
  by_cases hkl : k < w.heap.size
  · rcases hk with hk | hk
    · exact ⟨.inl hk.1, by rw [if_pos hkl]; exact hk.2⟩
    · omega
  · exact ⟨.inr (by omega), by rw [if_neg hkl]⟩
/-- Where a part began is stored. -/
theorem PL.then_ {b c k : Nat} (h : PL w F col x A n cp gr co fo line bn bx vf (.slice (some ⟨b, 0, none⟩) n c) vd st ln lx fr th td) (hk : k < n) (hFb : F b ∧ col b = 4) (f : Int) :
    PL (w.setCell ⟨b, k, none⟩ (.int .i64 f)) F col x A n cp gr co fo line bn bx vf (.slice (some ⟨b, 0, none⟩) n c) vd st ln lx fr (th.set k f) td := by
  have ff : Frm (fun i => i = b) w (w.setCell ⟨b, k, none⟩ (.int .i64 f)) := (Frm.refl (fun i => i = b) w).set b k _ (fun _ => rfl)
  have no : ∀ (c : Nat), c ≠ 4 → ∀ i, (F i ∧ col i = c) → ¬ (i = b) := fun c hc i hi e => by subst e; omega
  have ht := h.sh.put hk (.int .i64 f)
  rw [show (th.map I64).set k (.int .i64 f) = (th.set k f).map I64 by rw [List.map_set]; rfl] at ht
  have hxb : x ≠ b := fun e => by have := h.fx.2; subst e; omega
  exact ⟨h.b.setOther b k _ hxb, h.fx, h.nw.frm ff (no 1 (by omega)), h.nx.frm ff (no 2 (by omega)), h.sf.frm ff (no 3 (by omega)), ht, h.sd.frm ff (no 5 (by omega)), h.lf, by rw [List.length_set]; exact h.lt⟩
end
end Go.Proofs.Ytoadmpochaeohaa
