/-
  What 'play' holds between the steps of a turn.
-/
import Derived.Test.YtoadmpochaeohaaPg36
import Derived.Test.YtoadmpochaeohaaPg38
section
set_option linter.unusedVariables false
set_option linter.unusedSimpArgs false
set_option maxRecDepth 100000
namespace Go.Proofs.Ytoadmpochaeohaa
open Go.RowKit

/-- A block of cells. -/
def IsC (w : World) (k : Nat) : Prop := ∃ o : Obj, w.heap[k]? = some o ∧ o.isCells = true
theorem Blk.isC {w : World} {g : Nat} {cur : List Value} {t : TypeId} (h : Blk w g cur t) : IsC w g := ⟨_, h.out, rfl⟩
theorem IsC.no {w : World} {k : Nat} (h : IsC w k) (hd : w.heap[k]? = some (.deferred (some []))) : False := by
  obtain ⟨o, ho, hc⟩ := h
  rw [hd] at ho; cases ho; cases hc
theorem Sl.cells {w : World} {F : Nat → Prop} {e : TypeId} {size : Nat} {v : Value} {n : Nat} {xs : List Value} (h : Sl w F e size v n xs) : Sl w (fun k => F k ∧ IsC w k) e size v n xs := by
  cases h with
  | nil => exact .nil
  | at_ hF hb hx hr hn hm => exact .at_ ⟨hF, hb.isC⟩ hb hx hr hn hm
theorem MK.cells {w : World} {F : Nat → Prop} {b room : Nat} {l : List Nat} (h : MK w F b room l) : MK w (fun k => F k ∧ IsC w k) b room l := by
  obtain ⟨vw, vl, Fw, Fl, wh, hB, hF, hW, hL, g1, g2, g3⟩ := h
  exact ⟨vw, vl, _, _, wh, hB, ⟨hF, hB.isC⟩, hW.cells, hL.cells, fun k hk => ⟨⟨(g1 k hk.1).1, hk.2⟩, (g1 k hk.1).2.1, fun hh => (g1 k hk.1).2.2 hh.1⟩, fun k hk => ⟨⟨(g2 k hk.1).1, hk.2⟩, (g2 k hk.1).2⟩, g3⟩
section
variable {w w1 : World} {F : Nat → Prop} {col : Nat → Nat} {x : Nat} {A : Option Addr} {n cp : Nat} {gr co : Int} {fo : Bool} {line : ByteArray} {bn bx : Nat} {vf vt vd : Value} {st : Int} {ln lx : List Nat} {fr th td : List Int}
theorem PL.cells (h : PL w F col x A n cp gr co fo line bn bx vf vt vd st ln lx fr th td) : PL w (fun k => F k ∧ IsC w k) col x A n cp gr co fo line bn bx vf vt vd st ln lx fr th td :=
  have sw : ∀ (c : Nat) (k : Nat), ((F k ∧ col k = c) ∧ IsC w k) → k < w.heap.size → ((F k ∧ IsC w k) ∧ col k = c) := fun c k hk _ => ⟨⟨hk.1.1, hk.2⟩, hk.1.2⟩
  ⟨h.b, ⟨⟨h.fx.1, h.b.isC⟩, h.fx.2⟩, h.nw.cells.mono (sw 1), h.nx.cells.mono (sw 2), h.sf.cells.mono (sw 3), h.sh.cells.mono (sw 4), h.sd.cells.mono (sw 5), h.lf, h.lt⟩
theorem PL.kept {row : Option Nat} (h : PL w F col x A n cp gr co fo line bn bx vf vt vd st ln lx fr th td) (hg : w.grownBy w1 row) (hr : ∀ r, row = some r → ∃ o : Obj, w.heap[r]? = some o ∧ o.isCells = false) : PL w1 F col x A n cp gr co fo line bn bx vf vt vd st ln lx fr th td :=
  ⟨h.b.kept hg hr, h.fx, h.nw.kept hg hr, h.nx.kept hg hr, h.sf.kept hg hr, h.sh.kept hg hr, h.sd.kept hg hr, h.lf, h.lt⟩
end

def bestF : Best → Int | none => 0 | some (f, _) => f
def bestT : Best → Int | none => 0 | some (_, t) => t

/-- Between two steps of a turn. -/
structure JP (w0 : World) (F0 : Nat → Prop) (B1 b3 b4 bb bf x : Nat) (A : Option Addr) (n cp : Nat) (gr co : Int) (fo : Bool) (line : ByteArray) (bn bx : Nat) (vf : Value) (ln : List Nat) (fr : List Int) (at_ : Nat) (Ds : List Nat) (z : Int) (s : Best × List (Nat × Int)) (W : World) : Prop where
  ord : w0.heap.size ≤ b3 ∧ b3 < b4 ∧ b4 < bb ∧ bb < bf ∧ bf + 1 = B1
  low : ∀ k, F0 k → k < w0.heap.size
  c3 : Blk W b3 [.pointer (some ⟨x, 0, none⟩)] 92
  c4 : Blk W b4 [.int .i64 at_] 3
  cb : Blk W bb [.int .i64 (bestF s.1), .int .i64 (bestT s.1)] 50
  cf : Blk W bf [.bool s.1.isSome] 4
  ex : ∃ F col vt vd st th td, PL W F col x A n cp gr co fo line bn bx vf vt vd st ln (s.2.map Prod.fst) fr th td ∧ Cons th s.2 ∧ (∀ k, F k → F0 k ∨ B1 ≤ k) ∧ Cnt z n st s.2.length
  frm : Frm F0 w0 W
  ds : ∀ D ∈ Ds, W.heap[D]? = some (.deferred (some [])) ∧ w0.heap.size ≤ D

section
variable {w0 : World} {F0 : Nat → Prop} {B1 b3 b4 bb bf x : Nat} {A : Option Addr} {n cp : Nat} {gr co : Int} {fo : Bool} {line : ByteArray} {bn bx : Nat} {vf : Value} {ln : List Nat} {fr : List Int} {at_ : Nat} {Ds : List Nat} {z : Int} {s : Best × List (Nat × Int)} {W W1 : World}
theorem JP.world (h : JP w0 F0 B1 b3 b4 bb bf x A n cp gr co fo line bn bx vf ln fr at_ Ds z s W) (f : Frm (fun _ => False) W W1) : JP w0 F0 B1 b3 b4 bb bf x A n cp gr co fo line bn bx vf ln fr at_ Ds z s W1 := by
  obtain ⟨F, col, vt, vd, st, th, td, hp, h1, h2, h3⟩ := h.ex
  exact ⟨h.ord, h.low, h.c3.frm f (fun h => h), h.c4.frm f (fun h => h), h.cb.frm f (fun h => h), h.cf.frm f (fun h => h), ⟨F, col, vt, vd, st, th, td, hp.frm f (fun _ _ h => h), h1, h2, h3⟩, h.frm.then f (fun _ h _ => h.elim), fun D hD => ⟨(f.block D (Array.getElem?_eq_some_iff.1 (h.ds D hD).1).1 (fun h => h)).trans (h.ds D hD).1, (h.ds D hD).2⟩⟩
theorem JP.kept {row : Option Nat} (h : JP w0 F0 B1 b3 b4 bb bf x A n cp gr co fo line bn bx vf ln fr at_ Ds z s W) {Bl : Nat} (hB : w0.heap.size ≤ Bl) (hD : ∀ D ∈ Ds, D < Bl) (hg : W.grownBy W1 row) (hr : ∀ r, row = some r → Bl ≤ r ∧ ∃ o : Obj, W.heap[r]? = some o ∧ o.isCells = false) : JP w0 F0 B1 b3 b4 bb bf x A n cp gr co fo line bn bx vf ln fr at_ Ds z s W1 := by
  obtain ⟨F, col, vt, vd, st, th, td, hp, h1, h2, h3⟩ := h.ex
  have hr2 : ∀ r, row = some r → ∃ o : Obj, W.heap[r]? = some o ∧ o.isCells = false := fun r e => (hr r e).2
  exact ⟨h.ord, h.low, h.c3.kept hg hr2, h.c4.kept hg hr2, h.cb.kept hg hr2, h.cf.kept hg hr2, ⟨F, col, vt, vd, st, th, td, hp.kept hg hr2, h1, h2, h3⟩, h.frm.then (Frm.of_grown hg) (fun i e hi => by have := (hr i e.symm).1; omega),
    fun D hDD => ⟨(hg.block D (Array.getElem?_eq_some_iff.1 (h.ds D hDD).1).1 (fun e => by have := (hr D e.symm).1; have := hD D hDD; omega)).trans (h.ds D hDD).1, (h.ds D hDD).2⟩⟩
/-- A better part is noted. -/
theorem JP.best (h : JP w0 F0 B1 b3 b4 bb bf x A n cp gr co fo line bn bx vf ln fr at_ Ds z s W) (f t : Int) :
    JP w0 F0 B1 b3 b4 bb bf x A n cp gr co fo line bn bx vf ln fr at_ Ds z (some (f, t), s.2) (((W.setCell ⟨bb, 0, none⟩ (.int .i64 f)).setCell ⟨bb, 1, none⟩ (.int .i64 t)).setCell ⟨bf, 0, none⟩ (.bool true)) ∧
    Frm (fun k => k = bb ∨ k = bf) W (((W.setCell ⟨bb, 0, none⟩ (.int .i64 f)).setCell ⟨bb, 1, none⟩ (.int .i64 t)).setCell ⟨bf, 0, none⟩ (.bool true)) := by
  obtain ⟨F, col, vt, vd, st, th, td, hp, h1, h2, h3⟩ := h.ex
  have ho := h.ord
  have hf : Frm (fun k => k = bb ∨ k = bf) W (((W.setCell ⟨bb, 0, none⟩ (.int .i64 f)).setCell ⟨bb, 1, none⟩ (.int .i64 t)).setCell ⟨bf, 0, none⟩ (.bool true)) :=
    (((Frm.refl _ W).set bb 0 _ (fun _ => .inl rfl)).set bb 1 _ (fun _ => .inl rfl)).set bf 0 _ (fun _ => .inr rfl)
  refine ⟨⟨h.ord, h.low, h.c3.frm hf (by omega), h.c4.frm hf (by omega), ?_, ?_, ⟨F, col, vt, vd, st, th, td, hp.frm hf (fun k hk e => ?_), h1, h2, h3⟩, h.frm.then hf (fun i e hi => by omega), fun D hD => ⟨(hf.block D (Array.getElem?_eq_some_iff.1 (h.ds D hD).1).1 (fun e => ?_)).trans (h.ds D hD).1, (h.ds D hD).2⟩⟩, hf⟩
  · exact ((h.cb.setSame 0 _).setSame 1 _).setOther bf 0 _ (by omega)
  · exact ((h.cf.setOther bb 0 _ (by omega)).setOther bb 1 _ (by omega)).setSame 0 _
  · rcases h2 k hk with h4 | h4
    · have := h.low k h4; omega
    · omega
  · have hd := (h.ds D hD).1
    rcases e with rfl | rfl
    · exact h.cb.isC.no hd
    · exact h.cf.isC.no hd

/-- What a round keeps, where it turned cells of the player's alone. -/
theorem keepsFrom_cells {B : Nat} {S : Nat → Prop} (f : Frm S W W1) (hS : ∀ k, S k → k < W.heap.size → IsC W k) : KeepsFrom B W W1 :=
  ⟨f.size, fun k o hB hk hc => (f.block k (Array.getElem?_eq_some_iff.1 hk).1 (fun hs => by
    obtain ⟨o', ho, hc'⟩ := hS k hs (Array.getElem?_eq_some_iff.1 hk).1
    rw [hk] at ho; cases ho; rw [hc] at hc'; cases hc')).trans hk⟩
/-- The player, ahead of a call in a round: what it owns, to the block. -/
theorem JP.call (h : JP w0 F0 B1 b3 b4 bb bf x A n cp gr co fo line bn bx vf ln fr at_ Ds z s W) (Bl : Nat) (hx : x < Bl) (hbn : bn < Bl) (hbx : bx < Bl) :
    ∃ F col vt vd st th td, PL W F col x A n cp gr co fo line bn bx vf vt vd st ln (s.2.map Prod.fst) fr th td ∧ Cons th s.2 ∧ Cnt z n st s.2.length ∧ (∀ k, F k → F0 k ∨ B1 ≤ k) ∧ (∀ k, F k → k < Bl ∨ Own (rowsOf x bn bx) W k) ∧ (∀ k, F k → IsC W k) := by
  obtain ⟨F, col, vt, vd, st, th, td, hp, h1, h2, h3⟩ := h.ex
  exact ⟨_, col, vt, vd, st, th, td, (hp.exact hx hbn hbx).cells, h1, h3, fun k hk => h2 k hk.1.1, fun k hk => hk.1.2, fun k hk => hk.2⟩
/-- Behind a call. -/
theorem JP.called {np : List (Nat × Int)} (h : JP w0 F0 B1 b3 b4 bb bf x A n cp gr co fo line bn bx vf ln fr at_ Ds z s W) {F F' : Nat → Prop} {col' : Nat → Nat} {vt' vd' : Value} {st' : Int} {th' td' : List Int} {Bl : Nat}
    (h2 : ∀ k, F k → F0 k ∨ B1 ≤ k) (h3 : ∀ k, F k → k < Bl ∨ Own (rowsOf x bn bx) W k) (h4 : ∀ k, F k → IsC W k)
    (hp : PL W1 F' col' x A n cp gr co fo line bn bx vf vt' vd' st' ln (np.map Prod.fst) fr th' td') (hc : Cons th' np) (hf : Frm F W W1) (hF : ∀ k, F' k → F k ∨ W.heap.size ≤ k) (hn : Cnt z n st' np.length) :
    JP w0 F0 B1 b3 b4 bb bf x A n cp gr co fo line bn bx vf ln fr at_ Ds z (s.1, np) W1 ∧ KeepsFrom Bl W W1 ∧ KpO (rowsOf x bn bx) Bl W W1 := by
  have ho := h.ord
  have no : ∀ b, w0.heap.size ≤ b → b < B1 → ¬ F b := fun b l1 l2 hb => by
    rcases h2 b hb with h5 | h5
    · have := h.low b h5; omega
    · omega
  have hz := h.cf.lt
  have hs0 := h.frm.size
  refine ⟨⟨h.ord, h.low, h.c3.frm hf (no _ (by omega) (by omega)), h.c4.frm hf (no _ (by omega) (by omega)), h.cb.frm hf (no _ (by omega) (by omega)), h.cf.frm hf (no _ (by omega) (by omega)), ⟨_, _, _, _, _, _, _, hp, hc, fun k hk => ?_, hn⟩, h.frm.then hf (fun i hi hl => ?_), fun D hD => ⟨(hf.block D (Array.getElem?_eq_some_iff.1 (h.ds D hD).1).1 (fun e => (h4 D e).no (h.ds D hD).1)).trans (h.ds D hD).1, (h.ds D hD).2⟩⟩, keepsFrom_cells hf (fun k hk _ => h4 k hk), KpO.of_frm hf (fun k hk _ => h3 k hk) (fun k hk hl hO => ?_)⟩
  · by_cases hkl : F k
    · exact h2 k hkl
    · rcases hF k hk with h5 | h5
      · exact absurd h5 hkl
      · by_cases hkB : B1 ≤ k
        · exact .inr hkB
        · exfalso
          omega
  · rcases h2 i hi with h5 | h5
    · exact h5
    · omega
  · obtain ⟨h5, _⟩ := hp.owned k hO
    rcases hF k h5 with h6 | h6
    · rcases h3 k h6 with h7 | h7
      · omega
      · exact h7
    · omega
end
end Go.Proofs.Ytoadmpochaeohaa
end
