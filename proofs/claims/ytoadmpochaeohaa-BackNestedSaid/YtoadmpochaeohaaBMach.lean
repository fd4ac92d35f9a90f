/-
  Layer 20: a machine in memory.
-/
import Derived.Test.YtoadmpochaeohaaBMap
import Derived.Test.YtoadmpochaeohaaBAgain
import Derived.Test.YtoadmpochaeohaaBCount
set_option linter.unusedVariables false
set_option linter.unusedSimpArgs false
set_option maxRecDepth 100000
namespace Go.Proofs.Ytoadmpochaeohaa
open Go.RowKit

/-- Where what stands still lies. -/
structure Stt where
  PA : Option Addr
  pn : Nat
  pc : Nat
  SA : Option Addr
  sn : Nat
  sc : Nat
  MA : Option Addr
  mn : Nat
  mc : Nat
  LA : Option Addr
  ln : Nat
  lc : Nat
  gr : Int
  co : Int
def cellsB (s : Stt) (m : Mc) (sv pv : Value) (line : ByteArray) (steps kept : Nat) : List Value :=
  [.slice s.PA s.pn s.pc, .int .i64 s.gr, .int .i64 s.co, .bool m.fold, .bool m.plain, .slice s.SA s.sn s.sc, .slice s.MA s.mn s.mc, .slice s.LA s.ln s.lc, sv, pv, .string line, .int .i64 steps, .int .i64 kept]
structure Sta (w : World) (D : Nat → Prop) (s : Stt) (m : Mc) : Prop where
  ins : Rd w D 10 s.PA s.pn s.pc (flatI m.ins)
  slot : Rd w D 1 s.SA s.sn s.sc (m.slot.map I64)
  most : Rd w D 1 s.MA s.mn s.mc (m.most.map I64)
  live : LvM w D s.LA s.ln s.lc m.live
theorem LvM.mono {w : World} {D G : Nat → Prop} {LA : Option Addr} {ln lc : Nat} {live : List (List Lv)} (h : LvM w D LA ln lc live) (hG : ∀ k, D k → k < w.heap.size → G k) : LvM w G LA ln lc live := by
  obtain ⟨rows, h1, h2⟩ := h
  exact ⟨rows, h1.mono hG, fun k r hk => by
    obtain ⟨A, n, c, g1, g2⟩ := h2 k r hk
    exact ⟨A, n, c, g1, g2.mono hG⟩⟩
theorem Sta.frm {S : Nat → Prop} {w w' : World} {D : Nat → Prop} {s : Stt} {m : Mc} (h : Sta w D s m) (f : Frm S w w') (hd : ∀ k, D k → ¬ S k) : Sta w' D s m :=
  ⟨h.ins.frm f hd, h.slot.frm f hd, h.most.frm f hd, h.live.frm f hd⟩
theorem Sta.mono {w : World} {D G : Nat → Prop} {s : Stt} {m : Mc} (h : Sta w D s m) (hG : ∀ k, D k → k < w.heap.size → G k) : Sta w G s m :=
  ⟨h.ins.mono hG, h.slot.mono hG, h.most.mono hG, h.live.mono hG⟩
/-- A configuration's slices. -/
structure CfR (w : World) (D : Nat → Prop) (parts : List Pt) (turns : List Tn) (A : Option Addr) (n cA : Nat) (B : Option Addr) (k d : Nat) : Prop where
  p : Rd w D 3 A n cA (flatP parts)
  t : Rd w D 2 B k d (flatN turns)
theorem CfR.frm {S : Nat → Prop} {w w' : World} {D : Nat → Prop} {parts : List Pt} {turns : List Tn} {A B : Option Addr} {n cA k d : Nat} (h : CfR w D parts turns A n cA B k d) (f : Frm S w w') (hd : ∀ k, D k → ¬ S k) : CfR w' D parts turns A n cA B k d := ⟨h.p.frm f hd, h.t.frm f hd⟩
theorem CfR.mono {w : World} {D G : Nat → Prop} {parts : List Pt} {turns : List Tn} {A B : Option Addr} {n cA k d : Nat} (h : CfR w D parts turns A n cA B k d) (hG : ∀ k, D k → k < w.heap.size → G k) : CfR w G parts turns A n cA B k d := ⟨h.p.mono hG, h.t.mono hG⟩
def FrV (w : World) (D : Nat → Prop) : Fr → Value → Prop
  | .look c, v => ∃ A n cA B k d, v = .iface 136 (.agg #[.int .i64 c.pc, .int .i64 c.at_, .slice A n cA, .slice B k d]) ∧ CfR w D c.parts c.turns A n cA B k d
  | .leave k, v => v = .iface 140 (.agg #[kV k])
theorem FrV.frm {S : Nat → Prop} {w w' : World} {D : Nat → Prop} {f : Fr} {v : Value} (h : FrV w D f v) (fr : Frm S w w') (hd : ∀ k, D k → ¬ S k) : FrV w' D f v := by
  cases f with
  | look c => obtain ⟨A, n, cA, B, k, d, e, h⟩ := h; exact ⟨A, n, cA, B, k, d, e, h.frm fr hd⟩
  | leave k => exact h
theorem FrV.mono {w : World} {D G : Nat → Prop} {f : Fr} {v : Value} (h : FrV w D f v) (hG : ∀ k, D k → k < w.heap.size → G k) : FrV w G f v := by
  cases f with
  | look c => obtain ⟨A, n, cA, B, k, d, e, h⟩ := h; exact ⟨A, n, cA, B, k, d, e, h.mono hG⟩
  | leave k => exact h
inductive F2 (R : Fr → Value → Prop) : List Fr → List Value → Prop
  | nil : F2 R [] []
  | cons {a : Fr} {b : Value} {l : List Fr} {v : List Value} (h : R a b) (t : F2 R l v) : F2 R (a :: l) (b :: v)
theorem F2.length_eq {R : Fr → Value → Prop} : ∀ {l : List Fr} {v : List Value}, F2 R l v → l.length = v.length
  | _, _, .nil => rfl
  | _, _, .cons _ t => by rw [List.length_cons, List.length_cons, t.length_eq]
theorem forall2_mono {R S : Fr → Value → Prop} (h : ∀ a b, R a b → S a b) : ∀ {l : List Fr} {v : List Value}, F2 R l v → F2 S l v
  | _, _, .nil => .nil
  | _, _, .cons h1 h2 => .cons (h _ _ h1) (forall2_mono h h2)
/-- A run's numbers. -/
structure MM (w : World) (E D : Nat → Prop) (b g bm : Nat) (s : Stt) (m : Mc) (line : ByteArray) (pile : List Fr) (seen : List Key) (steps kept : Nat) : Prop where
  obj : Blk w b (cellsB s m (.map (some bm)) (.pointer (some ⟨g, 0, none⟩)) line steps kept) 78
  bE : E b
  mE : E bm
  ne : b ≠ bm
  ps : ∃ vs, PS w (fun k => E k ∧ k ≠ b ∧ k ≠ bm) g vs.reverse ∧ F2 (FrV w D) pile vs
  map : SM w bm seen
  sta : Sta w D s m
  apart : ∀ k, D k → ¬ E k
theorem MM.frm {w w' : World} {E D : Nat → Prop} {b g bm : Nat} {s : Stt} {m : Mc} {line : ByteArray} {pile : List Fr} {seen : List Key} {steps kept : Nat} (h : MM w E D b g bm s m line pile seen steps kept) (f : Frm (fun _ => False) w w') : MM w' E D b g bm s m line pile seen steps kept := by
  obtain ⟨vs, h1, h2⟩ := h.ps
  exact ⟨h.obj.frm f (fun h => h), h.bE, h.mE, h.ne, ⟨vs, h1.frm f (fun _ _ h => h), forall2_mono (fun a b hh => hh.frm f (fun _ _ h => h)) h2⟩, h.map.frm f (fun h => h), h.sta.frm f (fun _ _ h => h), h.apart⟩
theorem MM.low {w : World} {E D : Nat → Prop} {b g bm : Nat} {s : Stt} {m : Mc} {line : ByteArray} {pile : List Fr} {seen : List Key} {steps kept : Nat} (h : MM w E D b g bm s m line pile seen steps kept) : MM w (fun k => E k ∧ k < w.heap.size) (fun k => D k ∧ k < w.heap.size) b g bm s m line pile seen steps kept := by
  obtain ⟨vs, h1, h2⟩ := h.ps
  exact ⟨h.obj, ⟨h.bE, h.obj.lt⟩, ⟨h.mE, h.map.lt⟩, h.ne, ⟨vs, h1.mono fun k hk hl => ⟨⟨hk.1, hl⟩, hk.2⟩, forall2_mono (fun a b hh => hh.mono fun k hk hl => ⟨hk, hl⟩) h2⟩, h.map, h.sta.mono fun k hk hl => ⟨hk, hl⟩, fun k hk he => h.apart k hk.1 he.1⟩
theorem MM.frmS {S : Nat → Prop} {w w' : World} {E D : Nat → Prop} {b g bm : Nat} {s : Stt} {m : Mc} {line : ByteArray} {pile : List Fr} {seen : List Key} {steps kept : Nat} (h : MM w E D b g bm s m line pile seen steps kept) (f : Frm S w w') (hE : ∀ k, E k → ¬ S k) (hD : ∀ k, D k → ¬ S k) : MM w' E D b g bm s m line pile seen steps kept := by
  obtain ⟨vs, h1, h2⟩ := h.ps
  exact ⟨h.obj.frm f (hE _ h.bE), h.bE, h.mE, h.ne, ⟨vs, h1.frm f (fun k h => hE k h.1), forall2_mono (fun a b hh => hh.frm f hD) h2⟩, h.map.frm f (hE _ h.mE), h.sta.frm f hD, h.apart⟩
/-- More that stands still. -/
theorem MM.more {w : World} {E D G : Nat → Prop} {b g bm : Nat} {s : Stt} {m : Mc} {line : ByteArray} {pile : List Fr} {seen : List Key} {steps kept : Nat} (h : MM w E D b g bm s m line pile seen steps kept) (hG : ∀ k, D k → k < w.heap.size → G k) (ha : ∀ k, G k → ¬ E k) : MM w E G b g bm s m line pile seen steps kept := by
  obtain ⟨vs, h1, h2⟩ := h.ps
  exact ⟨h.obj, h.bE, h.mE, h.ne, ⟨vs, h1, forall2_mono (fun a b hh => hh.mono hG) h2⟩, h.map, h.sta.mono hG, ha⟩
/-- What a call may leave. -/
def MX (w0 : World) (E D : Nat → Prop) (w : World) (b g bm : Nat) (s : Stt) (m : Mc) (line : ByteArray) (pile : List Fr) (seen : List Key) (steps kept : Nat) : Prop :=
  ∃ E' D' : Nat → Prop, MM w E' D' b g bm s m line pile seen steps kept ∧ (∀ k, E' k → E k ∨ w0.heap.size ≤ k) ∧ (∀ k, D k → k < w0.heap.size → D' k) ∧ Frm E w0 w

theorem toM {E D : Nat → Prop} {b g bm : Nat} {s : Stt} {m : Mc} {line : ByteArray} {pile : List Fr} {seen : List Key} {steps kept : Nat} {parts : List Pt} {turns : List Tn} {A B : Option Addr} {n cA k d : Nat} {w : World} (pc at_ q : Nat)
    (h : MM w E D b g bm s m line pile seen steps kept) (hc : CfR w D parts turns A n cA B k d) (hb : pile.length ≤ 1073741824) :
    Calls Try.prog 75 #[.pointer (some ⟨b, 0, none⟩), .agg #[.int .i64 pc, .int .i64 at_, .slice A n cA, .slice B k d], .int .i64 q] w fun e w' => e = .returned (.tuple #[]) ∧ MM w' (fun k => E k ∨ w.heap.size ≤ k) (fun k => D k ∧ k < w.heap.size) b g bm s m line (.look ⟨q, at_, parts, turns⟩ :: pile) seen steps kept ∧ Frm (fun k => E k ∧ k ≠ b ∧ k ≠ bm) w w' := by
  obtain ⟨vs, h1, h2⟩ := h.ps
  have hlen : vs.reverse.length ≤ 1073741824 := by rw [List.length_reverse, ← h2.length_eq]; exact hb
  refine (toB _ b g _ vs.reverse pc at_ q A B n cA k d w h1 h.obj rfl hlen).mono ?_
  rintro e w' ⟨rfl, p1, p2⟩
  have hbl := h.obj.lt
  have hml := h.map.lt
  have hd : ∀ k, D k → ¬ (E k ∧ k ≠ b ∧ k ≠ bm) := fun k hk he => h.apart k hk he.1
  refine ⟨rfl, ⟨h.obj.frm p2 (fun h => h.2.1 rfl), .inl h.bE, .inl h.mE, h.ne, ⟨.iface 136 (.agg #[.int .i64 q, .int .i64 at_, .slice A n cA, .slice B k d]) :: vs, ?_, ?_⟩, h.map.frm p2 (fun h => h.2.2 rfl), (h.sta.mono fun k hk hl => ⟨hk, hl⟩).frm p2 (fun k hk => hd k hk.1), fun k hk he => ?_⟩, p2⟩
  · rw [List.reverse_cons]
    exact p1.mono fun k hk _ => by rcases hk with hk | hk; exact ⟨.inl hk.1, hk.2⟩; exact ⟨.inr hk, by omega, by omega⟩
  · exact .cons ⟨A, n, cA, B, k, d, rfl, (hc.mono fun k hk hl => ⟨hk, hl⟩).frm p2 (fun k hk => hd k hk.1)⟩ (forall2_mono (fun a b hh => (hh.mono fun k hk hl => ⟨hk, hl⟩).frm p2 (fun k hk => hd k hk.1)) h2)
  · rcases he with he | he
    · exact h.apart k hk.1 he
    · omega
/-- From where a call began to where it stands. -/
structure Lk (w : World) (E D : Nat → Prop) (w1 : World) (E1 D1 : Nat → Prop) : Prop where
  e : ∀ k, E1 k → E k ∨ w.heap.size ≤ k
  d : ∀ k, D k → k < w.heap.size → D1 k
  f : Frm E w w1
theorem Lk.refl (w : World) (E D : Nat → Prop) : Lk w E D w E D := ⟨fun _ h => .inl h, fun _ h _ => h, Frm.refl _ _⟩
theorem Lk.quiet {w : World} {E D : Nat → Prop} {w1 w2 : World} {E1 D1 : Nat → Prop} (h : Lk w E D w1 E1 D1) (f : Frm (fun _ => False) w1 w2) : Lk w E D w2 E1 D1 := ⟨h.e, h.d, h.f.then f (fun _ h _ => h.elim)⟩
theorem Lk.quietS {w : World} {E D : Nat → Prop} {w1 w2 : World} {E1 D1 S : Nat → Prop} (h : Lk w E D w1 E1 D1) (f : Frm S w1 w2) (hS : ∀ k, S k → w.heap.size ≤ k) : Lk w E D w2 E1 D1 := ⟨h.e, h.d, h.f.then f (fun k hk hl => by have := hS k hk; omega)⟩
theorem brk_eq (m : Mc) (c : Cf) (i : Ins) (gg : Int) (h : m.slot[i.n.toNat]? = some gg) : bracketS m c i = { c with parts := brkS c.parts gg i.op c.at_ } := by
  unfold bracketS brkS
  simp only [List.getD_eq_getElem?_getD, h, Option.getD_some]
  split
  · rfl
  · split <;> rfl
theorem Lk.push {w : World} {E D : Nat → Prop} {w1 w2 : World} {E1 D1 S : Nat → Prop} (h : Lk w E D w1 E1 D1) (f : Frm S w1 w2) (hS : ∀ k, S k → E1 k) : Lk w E D w2 (fun k => E1 k ∨ w1.heap.size ≤ k) (fun k => D1 k ∧ k < w1.heap.size) :=
  ⟨fun k hk => by have := h.f.size; rcases hk with hk | hk; exact h.e k hk; exact .inr (by omega), fun k hk hl => ⟨h.d k hk hl, by have := h.f.size; omega⟩, h.f.then f (fun k hk hl => by rcases h.e k (hS k hk) with h | h; exact h; omega)⟩
theorem Lk.more {w : World} {E D : Nat → Prop} {w1 : World} {E1 D1 G : Nat → Prop} (h : Lk w E D w1 E1 D1) (hG : ∀ k, D1 k → G k) : Lk w E D w1 E1 G := ⟨h.e, fun k hk hl => hG k (h.d k hk hl), h.f⟩
theorem Lk.low {w : World} {E D : Nat → Prop} {w1 : World} {E1 D1 : Nat → Prop} (h : Lk w E D w1 E1 D1) : Lk w E D w1 (fun k => E1 k ∧ k < w1.heap.size) (fun k => D1 k ∧ k < w1.heap.size) := ⟨fun k hk => h.e k hk.1, fun k hk hl => ⟨h.d k hk hl, by have := h.f.size; omega⟩, h.f⟩
theorem Lk.mx {w : World} {E D : Nat → Prop} {w1 : World} {E1 D1 : Nat → Prop} {b g bm : Nat} {s : Stt} {m : Mc} {line : ByteArray} {pile : List Fr} {seen : List Key} {steps kept : Nat} (h : Lk w E D w1 E1 D1) (hM : MM w1 E1 D1 b g bm s m line pile seen steps kept) : MX w E D w1 b g bm s m line pile seen steps kept :=
  ⟨E1, D1, hM, h.e, h.d, h.f⟩
theorem MM.start {w : World} {E D : Nat → Prop} {b g bm : Nat} {s : Stt} {m : Mc} {line : ByteArray} {pile : List Fr} {seen : List Key} {steps kept : Nat} {parts : List Pt} {turns : List Tn} {A B : Option Addr} {n cA k d : Nat} (h : MM w E D b g bm s m line pile seen steps kept) (hc : CfR w D parts turns A n cA B k d) :
    ∃ E1 D1, Lk w E D w E1 D1 ∧ MM w E1 D1 b g bm s m line pile seen steps kept ∧ CfR w D1 parts turns A n cA B k d ∧ (∀ k, E1 k → k < w.heap.size) ∧ ∀ k, D1 k → k < w.heap.size :=
  ⟨_, _, ⟨fun k h => .inl h.1, fun k h l => ⟨h, l⟩, Frm.refl _ _⟩, h.low, hc.mono fun k h l => ⟨h, l⟩, fun k h => h.2, fun k h => h.2⟩
end Go.Proofs.Ytoadmpochaeohaa
