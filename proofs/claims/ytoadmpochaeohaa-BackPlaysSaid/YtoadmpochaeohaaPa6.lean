/-
  Layer 20: key, walked.
-/
import Derived.Test.YtoadmpochaeohaaPa4
import Derived.Test.YtoadmpochaeohaaPa5
section
set_option linter.unusedVariables false
set_option linter.unusedSimpArgs false
set_option maxRecDepth 100000
namespace Go.Proofs.Ytoadmpochaeohaa
open Go.RowKit

def flatL (l : List Lv) : List Value := l.flatMap fun v => [.bool v.began, .bool v.part]
/-- What matters at each instruction, in memory: a slice of slices. -/
def LvM (w : World) (D : Nat → Prop) (LA : Option Addr) (ln lc : Nat) (live : List (List Lv)) : Prop :=
  ∃ rows : List Value, Rd w D 1 LA ln lc rows ∧ ∀ (k : Nat) (r : List Lv), live[k]? = some r → ∃ A n c, rows[k]? = some (.slice A n c) ∧ Rd w D 2 A n c (flatL r)
theorem LvM.frm {S : Nat → Prop} {w w' : World} {D : Nat → Prop} {LA : Option Addr} {ln lc : Nat} {live : List (List Lv)} (h : LvM w D LA ln lc live) (f : Frm S w w') (hd : ∀ k, D k → ¬ S k) : LvM w' D LA ln lc live := by
  obtain ⟨rows, h1, h2⟩ := h
  exact ⟨rows, h1.frm f hd, fun k r hk => by
    obtain ⟨A, n, c, g1, g2⟩ := h2 k r hk
    exact ⟨A, n, c, g1, g2.frm f hd⟩⟩
theorem flatL_get : ∀ (l : List Lv) (k : Nat) (t : Lv), l[k]? = some t → (flatL l)[k * 2]? = some (.bool t.began) ∧ (flatL l)[k * 2 + 1]? = some (.bool t.part)
  | [], k, t, h => by simp at h
  | x :: l, 0, t, h => by simp at h; subst h; exact ⟨rfl, rfl⟩
  | x :: l, k + 1, t, h => by
    have ih := flatL_get l k t (by simpa using h)
    show (Value.bool x.began :: .bool x.part :: flatL l)[(k + 1) * 2]? = _ ∧ (Value.bool x.began :: .bool x.part :: flatL l)[(k + 1) * 2 + 1]? = _
    rw [show (k + 1) * 2 + 1 = ((k * 2 + 1) + 1) + 1 by omega, show (k + 1) * 2 = (k * 2 + 1) + 1 by omega]
    simp only [List.getElem?_cons_succ]
    exact ih
theorem flatL_len (l : List Lv) : (flatL l).length = l.length * 2 := by
  induction l with
  | nil => rfl
  | cons x l ih => simp only [flatL, List.flatMap_cons, List.length_append, List.length_cons, List.length_nil] at *; rw [ih]; omega
theorem LvM.at_ {w : World} {D : Nat → Prop} {LA : Option Addr} {ln lc : Nat} {live : List (List Lv)} (h : LvM w D LA ln lc live) {k g : Nat} {r : List Lv} {v : Lv} (hk : live[k]? = some r) (hg : r[g]? = some v) :
    ∃ lb lo A2 n2 c2, LA = some ⟨lb, lo, none⟩ ∧ lb < w.heap.size ∧ k < ln ∧ w.cell? ⟨lb, lo + k, none⟩ = some (.slice (some A2) n2 c2) ∧ g < n2 ∧ A2.block < w.heap.size ∧ A2.spot = none ∧ w.cell? ⟨A2.block, A2.off + g * 2, none⟩ = some (.bool v.began) ∧ w.cell? ⟨A2.block, A2.off + g * 2 + 1, none⟩ = some (.bool v.part) := by
  obtain ⟨rows, h1, h2⟩ := h
  obtain ⟨A, n, c, g1, g2⟩ := h2 k r hk
  have hkl := (List.getElem?_eq_some_iff.1 g1).1
  have hln := h1.len
  obtain ⟨lb, lo, rfl, hlb, hc⟩ := h1.elem k (by omega)
  have hn : r.length = n := by have := g2.len; rw [flatL_len] at this; omega
  obtain ⟨b2, o2, rfl, hb2, hc2⟩ := g2.elem g (by have := (List.getElem?_eq_some_iff.1 hg).1; omega)
  obtain ⟨e1, e2⟩ := flatL_get r g v hg
  refine ⟨lb, lo, ⟨b2, o2, none⟩, n, c, rfl, hlb, by omega, ?_, by have := (List.getElem?_eq_some_iff.1 hg).1; omega, hb2, rfl, ?_, hc2 1 _ e2⟩
  · have := hc 0 _ (by simpa using g1)
    simpa using this
  · have := hc2 0 _ (by simpa using e1)
    simpa using this

theorem KB.low {w : World} {F : Nat → Prop} {b : Nat} {l : List UInt8} (h : KB w F b l) : KB w (fun k => F k ∧ k < w.heap.size) b l := by
  obtain ⟨v, hB, hF, hS⟩ := h
  exact ⟨v, hB, ⟨hF, hB.lt⟩, hS.mono fun k h l => ⟨⟨h.1, l⟩, h.2⟩⟩
theorem KB.mono {w : World} {F G : Nat → Prop} {b : Nat} {l : List UInt8} (h : KB w F b l) (hG : ∀ k, F k → k < w.heap.size → G k) : KB w G b l := by
  obtain ⟨v, hB, hF, hS⟩ := h
  exact ⟨v, hB, hG _ hF hB.lt, hS.mono fun k h l => ⟨hG _ h.1 l, h.2⟩⟩
theorem keyPs_snoc (ls : List Lv) : ∀ (a : List Pt) (g : Nat) (p : Pt), keyPs ls g (a ++ [p]) = keyPs ls g a ++ keyPt (ls.getD (g + a.length) ⟨false, false⟩) p
  | [], g, p => by simp [keyPs]
  | x :: a, g, p => by
    rw [List.cons_append, keyPs, keyPs, keyPs_snoc ls a (g + 1) p, List.append_assoc, List.length_cons, show g + (a.length + 1) = g + 1 + a.length by omega]
/-- Between two rounds: the bytes so far; where they lie. -/
def KR (w0 : World) (bK bq : Nat) (l : List UInt8) (wr : World) : Prop := Frm (fun k => bK ≤ k) w0 wr ∧ ∃ F : Nat → Prop, (∀ k, F k → bK ≤ k) ∧ KB wr F bq l
/-- One more number. -/
theorem KR.put {w0 wr : World} {bK bq : Nat} {l : List UInt8} (h : KR w0 bK bq l wr) (hb : bK ≤ wr.heap.size) (n : Int) (hl : l.length ≤ 100000) (hn : -9223372036854775808 ≤ n ∧ n ≤ 9223372036854775807) :
    Calls Try.prog 86 #[.int .i64 n, .pointer (some ⟨bq, 0, none⟩)] wr fun e w' => e = .returned (.tuple #[]) ∧ KR w0 bK bq (l ++ put4 n) w' := by
  obtain ⟨hf, F, hF, hk⟩ := h
  refine (putB F bq l n wr hk hl hn).mono ?_
  rintro e w' ⟨rfl, h1, h2⟩
  exact ⟨rfl, hf.trans (h2.mono fun k h _ => hF k h), _, fun k h => by rcases h with h | h; exact hF k h; omega, h1⟩

theorem LvM.low {w : World} {D : Nat → Prop} {LA : Option Addr} {ln lc : Nat} {live : List (List Lv)} (h : LvM w D LA ln lc live) : LvM w (fun k => D k ∧ k < w.heap.size) LA ln lc live := by
  obtain ⟨rows, h1, h2⟩ := h
  exact ⟨rows, h1.low, fun k r hk => by
    obtain ⟨A, n, c, g1, g2⟩ := h2 k r hk
    exact ⟨A, n, c, g1, g2.low⟩⟩
theorem KR.frm {w0 wr w' : World} {bK bq : Nat} {l : List UInt8} (h : KR w0 bK bq l wr) (f : Frm (fun _ => False) wr w') : KR w0 bK bq l w' := by
  obtain ⟨hf, F, hF, hk⟩ := h
  exact ⟨hf.trans (f.mono fun _ h _ => h.elim), F, hF, hk.frm f (fun _ _ h => h)⟩
/-- Likewise, beside a box that the bytes do not lie in. -/
def KR2 (w0 : World) (bK bq bY : Nat) (l : List UInt8) (wr : World) : Prop := bY < wr.heap.size ∧ Frm (fun k => bK ≤ k) w0 wr ∧ ∃ F : Nat → Prop, (∀ k, F k → bK ≤ k ∧ k ≠ bY) ∧ KB wr F bq l
theorem KR.kr2 {w0 wr w' : World} {bK bq : Nat} {l : List UInt8} (h : KR w0 bK bq l wr) (f : Frm (fun _ => False) wr w') (hs : wr.heap.size < w'.heap.size) : KR2 w0 bK bq wr.heap.size l w' := by
  obtain ⟨hf, F, hF, hk⟩ := h
  exact ⟨hs, hf.trans (f.mono fun _ h _ => h.elim), _, fun k h => ⟨hF k h.1, by have := h.2; omega⟩, hk.low.frm f (fun _ _ h => h)⟩
theorem KR2.kr {w0 wr : World} {bK bq bY : Nat} {l : List UInt8} (h : KR2 w0 bK bq bY l wr) : KR w0 bK bq l wr := by
  obtain ⟨_, hf, F, hF, hk⟩ := h
  exact ⟨hf, F, fun k h => (hF k h).1, hk⟩
theorem KR2.put {w0 wr : World} {bK bq bY : Nat} {l : List UInt8} (h : KR2 w0 bK bq bY l wr) (hb : bK ≤ wr.heap.size) (n : Int) (hl : l.length ≤ 100000) (hn : -9223372036854775808 ≤ n ∧ n ≤ 9223372036854775807) :
    Calls Try.prog 86 #[.int .i64 n, .pointer (some ⟨bq, 0, none⟩)] wr fun e w' => e = .returned (.tuple #[]) ∧ KR2 w0 bK bq bY (l ++ put4 n) w' ∧ Frm (fun k => k ≠ bY) wr w' := by
  obtain ⟨hY, hf, F, hF, hk⟩ := h
  refine (putB F bq l n wr hk hl hn).mono ?_
  rintro e w' ⟨rfl, h1, h2⟩
  exact ⟨rfl, ⟨Nat.lt_of_lt_of_le hY h2.size, hf.trans (h2.mono fun k h _ => (hF k h).1), _, fun k h => by rcases h with h | h; exact hF k h; exact ⟨by omega, by omega⟩, h1⟩, h2.mono fun k h _ => (hF k h).2⟩
theorem keyPs_len (ls : List Lv) : ∀ (a : List Pt) (g : Nat), (keyPs ls g a).length = 12 * a.length
  | [], _ => rfl
  | x :: a, g => by rw [keyPs, List.length_append, keyPs_len ls a, List.length_cons]; simp [keyPt, put4]; omega
theorem keyTn_len (at_ : Nat) : ∀ (a : List Tn), (a.flatMap (keyTn at_)).length = 4 * a.length
  | [] => rfl
  | x :: a => by rw [List.flatMap_cons, List.length_append, keyTn_len at_ a, List.length_cons]; simp [keyTn, put4]; omega
/-- Between two parts. -/
def KI (w0 : World) (bK bq : Nat) (pre : List UInt8) (lvs : List Lv) (parts : List Pt) (i : Value) (wr : World) : Prop :=
  ∃ g : Nat, i = .int .i64 g ∧ g ≤ parts.length ∧ KR w0 bK bq (pre ++ keyPs lvs 0 (parts.take g)) wr
/-- Between two counters. -/
def KJ (w0 : World) (bK bq : Nat) (pre : List UInt8) (at_ : Nat) (turns : List Tn) (i : Value) (wr : World) : Prop :=
  ∃ g : Nat, i = .int .i64 g ∧ g ≤ turns.length ∧ KR w0 bK bq (pre ++ (turns.take g).flatMap (keyTn at_)) wr

set_option maxHeartbeats 8000000 in
theorem keyC (b : Nat) (cs : List Value) (LA : Option Addr) (ln lc : Nat) (live : List (List Lv)) (pc at_ : Nat) (A B : Option Addr) (n cA m d : Nat) (parts : List Pt) (turns : List Tn) (lvs : List Lv) (D : Nat → Prop) (w : World)
    (hB : Blk w b cs 78) (h7 : cs[7]? = some (.slice LA ln lc)) (hL : LvM w D LA ln lc live) (hlv : live[pc]? = some lvs) (hll : parts.length ≤ lvs.length) (hP : Rd w D 3 A n cA (flatP parts)) (hN : Rd w D 2 B m d (flatN turns)) (hn : n ≤ 1000) (hm : m ≤ 1000) (hpc : pc ≤ 1048576) (hat : at_ ≤ 1048576)
    (hbp : ∀ p ∈ parts, (-1 ≤ p.began ∧ p.began ≤ 1048576) ∧ (-1 ≤ p.frm ∧ p.frm ≤ 1048576) ∧ (-1 ≤ p.til ∧ p.til ≤ 1048576)) (hbt : ∀ t ∈ turns, (0 ≤ t.many ∧ t.many ≤ 1048576) ∧ (-1 ≤ t.began ∧ t.began ≤ 1048576)) :
    Calls Try.prog 73 #[.pointer (some ⟨b, 0, none⟩), .agg #[.int .i64 pc, .int .i64 at_, .slice A n cA, .slice B m d]] w fun e w' => e = .returned (.string ⟨(put4 pc ++ put4 at_ ++ keyPs lvs 0 parts ++ turns.flatMap (keyTn at_)).toArray⟩) ∧ Frm (fun _ => False) w w' := by
  have hX := Blk.new w [.int .i64 pc, .int .i64 at_, .slice A n cA, .slice B m d] 129
  have hLl := hL.low
  have hPl := hP.low
  have hNl := hN.low
  have hlbw := hB.lt
  have HBP := Lib.hid hbp
  have HBT := Lib.hid hbt
  clear hbp hbt
  have hf0 : Frm (fun _ => False) w (w.alloc (.cells #[.int .i64 pc, .int .i64 at_, .slice A n cA, .slice B m d] 129)) := (Frm.refl _ w).alloc _
  go_enter Try.func73, Try.ntmps73
  go_upto_region 1 with fail
  generalize w.alloc (.cells #[.int .i64 pc, .int .i64 at_, .slice A n cA, .slice B m d] 129) = w1 at *
  generalize hbX : w.heap.size = bX at *
  have HBX := Lib.hid hbX
  clear hbX
  obtain ⟨x0, x1, x2, x3, y0, y1, y2, y3, lx⟩ := blk4 hX
  have hw1 : IntKind.i64.wrap (12 * (n : Int)) = 12 * n := IntWalk.i64_in _ (by omega)
  have hw2 : IntKind.i64.wrap (16 + 12 * (n : Int)) = 16 + 12 * n := IntWalk.i64_in _ (by omega)
  have hw3 : IntKind.i64.wrap (4 * (m : Int)) = 4 * m := IntWalk.i64_in _ (by omega)
  have hw4 : IntKind.i64.wrap (16 + 12 * (n : Int) + 4 * m) = 16 + 12 * n + 4 * m := IntWalk.i64_in _ (by omega)
  go_wp2_with (with_reducible refine stop_at 23 rfl ?_)
  unfold Stop
  refine op_makeOwn rfl _ _ _ rfl 5 _ 1 1 Try.underlying158 infoU8 rfl (16 + 12 * (n : Int) + 4 * m) rfl (16 + 12 * n + 4 * m) (by omega) (by omega) (by simp only [maxLen]; omega) ?_
  intro w2 hf2 hs2
  have hXK := hX.lt
  generalize w1.heap.size = bK at *
  have hX2 := hX.frm hf2 (fun h => h)
  clear x0 x1 x2 x3 y0 y1 y2 y3 lx
  go_upto_region 3 with fail
  have hX3 := hX2.alloc (.cells #[.slice (some ⟨bK, 0, none⟩) 0 (16 + 12 * n + 4 * m)] 158)
  have hQ := Blk.new w2 [.slice (some ⟨bK, 0, none⟩) 0 (16 + 12 * n + 4 * m)] 158
  have hs3 := hs2.low.alloc (.cells #[.slice (some ⟨bK, 0, none⟩) 0 (16 + 12 * n + 4 * m)] 158)
  have hf3 := (hf0.trans hf2).alloc (.cells #[.slice (some ⟨bK, 0, none⟩) 0 (16 + 12 * n + 4 * m)] 158)
  have hbkq : bK ≤ w2.heap.size := by have := hs2.own bK rfl; omega
  generalize w2.alloc (.cells #[.slice (some ⟨bK, 0, none⟩) 0 (16 + 12 * n + 4 * m)] 158) = w3 at *
  generalize w2.heap.size = bq at *
  have hKR : KR w3 bK bq [] w3 := ⟨Frm.refl _ _, fun k => bK ≤ k, fun _ h => h, _, hQ, hbkq, hs3.mono fun k h _ => ⟨h.1, by omega⟩⟩
  have HKR := Lib.hid hKR
  have hlq := hQ.lt
  clear hKR hs3 hQ hs2
  obtain ⟨x0, x1, x2, x3, y0, y1, y2, y3, lx⟩ := blk4 hX3
  go_wp2_with fail
  refine (HKR.out.put (by omega) pc (by simp) (by omega)).mono ?_
  rintro e w4 ⟨rfl, hKR4⟩
  have hX4 := hX3.frm hKR4.1 (fun h => by omega)
  have HKR4 := Lib.hid hKR4
  have hz4 := hKR4.1.size
  clear x0 x1 x2 x3 y0 y1 y2 y3 lx hKR4
  obtain ⟨x0, x1, x2, x3, y0, y1, y2, y3, lx⟩ := blk4 hX4
  go_wp2_with fail
  refine (HKR4.out.put (by omega) at_ (by simp [put4]) (by omega)).mono ?_
  rintro e w5 ⟨rfl, hKR5⟩
  rw [List.nil_append] at hKR5
  have hpre : (put4 (pc : Int) ++ put4 (at_ : Int)).length = 8 := rfl
  generalize hpre0 : put4 (pc : Int) ++ put4 (at_ : Int) = pre at *
  have HPRE := Lib.hid hpre0
  clear hpre0
  have hX5 := hX3.frm hKR5.1 (fun h => by omega)
  have HKR5 := Lib.hid hKR5
  have hz5 := hKR5.1.size
  have hB3 := hB.frm hf3 (fun h => h)
  have hL3 := hLl.frm hf3 (fun _ _ h => h)
  have hP3 := hPl.frm hf3 (fun _ _ h => h)
  have hN3 := hNl.frm hf3 (fun _ _ h => h)
  clear x0 x1 x2 x3 y0 y1 y2 y3 lx hKR5 hX4 hz4 HKR4 HKR
  obtain ⟨x0, x1, x2, x3, y0, y1, y2, y3, lx⟩ := blk4 hX5
  have hpl : parts.length = n := by have := hP.len; rw [flatP_len] at this; omega
  have htl : turns.length = m := by have := hN.len; rw [flatN_len] at this; omega
  go_wp2_with fail
  go_loopw [36] (fun i wr => KI w3 bK bq pre lvs parts i wr) (fun i _ => n - (intOf i).toNat)
  case atStart => exact ⟨0, rfl, by omega, by simpa [keyPs] using HKR5.out⟩
  case round =>
    obtain ⟨g, rfl, hg, hKRg⟩ := hrel
    clear x0 x1 x2 x3 y0 y1 y2 y3 lx hX5 HKR5 hz5
    have hXg := hX3.frm hKRg.1 (fun h => by omega)
    obtain ⟨x0, x1, x2, x3, y0, y1, y2, y3, lx⟩ := blk4 hXg
    have hzg := hKRg.1.size
    by_cases hgn : g < n
    · obtain ⟨⟨pg, pf, pt⟩, hp⟩ : ∃ p, parts[g]? = some p := ⟨_, List.getElem?_eq_getElem (by omega)⟩
      obtain ⟨⟨lg, lp⟩, hl⟩ : ∃ l, lvs[g]? = some l := ⟨_, List.getElem?_eq_getElem (by omega)⟩
      have hbp := HBP.out _ (List.mem_of_getElem? hp)
      simp only at hbp
      obtain ⟨e1, e2, e3⟩ := flatP_get parts g _ hp
      obtain ⟨pb, po, rfl, hpb, hpc_⟩ := (hP3.frm hKRg.1 (fun k h => by have := h.2; omega)).elem g hgn
      have p0 := hpc_ 0 _ e1
      have p1 := hpc_ 1 _ e2
      have p2 := hpc_ 2 _ e3
      rw [Nat.add_zero] at p0
      obtain ⟨lb, lo, ⟨b2, o2, s2⟩, n2, c2, rfl, hlb, hpcl, hlc, hg2, hlb2, hs2, hl1, hl2⟩ := (hL3.frm hKRg.1 (fun k h => by have := h.2; omega)).at_ hlv hl
      simp only at hs2 hlb2 hl1 hl2
      subst hs2
      have hBg := (hB3.frm hKRg.1 (fun h => by omega)).alloc (.cells #[.int .i64 pg, .int .i64 pf, .int .i64 pt] 131)
      have hY := Blk.new wr [.int .i64 pg, .int .i64 pf, .int .i64 pt] 131
      have hXg2 := hXg.alloc (.cells #[.int .i64 pg, .int .i64 pf, .int .i64 pt] 131)
      have hfg : Frm (fun _ => False) wr (wr.alloc (.cells #[.int .i64 pg, .int .i64 pf, .int .i64 pt] 131)) := (Frm.refl _ _).alloc _
      have hlc2 : (wr.alloc (.cells #[.int .i64 pg, .int .i64 pf, .int .i64 pt] 131)).cell? ⟨lb, lo + pc, none⟩ = some (.slice (some ⟨b2, o2, none⟩) n2 c2) := by rw [World.cell?_of_block (w := wr) (hfg.block lb hlb (fun h => h))]; exact hlc
      have hl12 : (wr.alloc (.cells #[.int .i64 pg, .int .i64 pf, .int .i64 pt] 131)).cell? ⟨b2, o2 + g * 2, none⟩ = some (.bool lg) := by rw [World.cell?_of_block (w := wr) (hfg.block b2 hlb2 (fun h => h))]; exact hl1
      have hl22 : (wr.alloc (.cells #[.int .i64 pg, .int .i64 pf, .int .i64 pt] 131)).cell? ⟨b2, o2 + g * 2 + 1, none⟩ = some (.bool lp) := by rw [World.cell?_of_block (w := wr) (hfg.block b2 hlb2 (fun h => h))]; exact hl2
      have hzz : wr.heap.size < (wr.alloc (.cells #[.int .i64 pg, .int .i64 pf, .int .i64 pt] 131)).heap.size := hY.lt
      have hlb3 := Nat.lt_trans hlb hzz
      have hlb4 := Nat.lt_trans hlb2 hzz
      have HPL := Lib.hid (⟨hp, hl⟩ : _ ∧ _)
      have HKRg := Lib.hid hKRg
      clear e1 e2 e3 hpc_ hl1 hl2 hlc hp hl hlb hlb2 hL hLl hL3 hP3 hPl hP hlv
      go_upto_region 8 with fail
      clear p0 p1 p2 x0 x1 x2 x3 y0 y1 y2 y3 lx hKRg hXg
      generalize wr.alloc (.cells #[.int .i64 pg, .int .i64 pf, .int .i64 pt] 131) = w6 at *
      obtain ⟨bY, hbY⟩ : ∃ bY, wr.heap.size = bY := ⟨_, rfl⟩
      simp only [hbY] at hY hzz ⊢
      obtain ⟨x0, x1, x2, x3, y0, y1, y2, y3, lx⟩ := blk4 hXg2
      have b7 := hBg.cell 7
      rw [h7] at b7
      have lb_ := hBg.lt
      have HY := Lib.hid hY
      clear hY
      go_wp2_with fail
      go_region
      have hY7 := (HY.out.alloc (.cells #[.bool lg, .bool lp] 101)).drew
      have hZ7 := (Blk.new w6 [.bool lg, .bool lp] 101).drew
      have hf7 := (hfg.alloc (.cells #[.bool lg, .bool lp] 101)).drew
      have hz7 : w6.heap.size < (w6.alloc (.cells #[.bool lg, .bool lp] 101)).drew.heap.size := hZ7.lt
      clear x0 x1 x2 x3 y0 y1 y2 y3 lx b7 lb_ hlc2 hl12 hl22 hXg2 hBg hlb3 hlb4
      generalize (w6.alloc (.cells #[.bool lg, .bool lp] 101)).drew = w7 at *
      obtain ⟨bZ, hbZ⟩ : ∃ bZ, w6.heap.size = bZ := ⟨_, rfl⟩
      simp only [hbZ] at hZ7 hz7 hzz ⊢
      have hyz : bY ≠ bZ := by omega
      have hzy : bZ ≠ bY := fun h => hyz h.symm
      have HBB := Lib.hid (⟨hbY, hbZ⟩ : _ ∧ _)
      clear hbY hbZ
      have hlY := hY7.lt
      have hlZ := hZ7.lt
      obtain ⟨u0, u1, u2, f0, f1, f2, _⟩ := blk3 hY7
      have z0 := hZ7.cell 0
      have z1 := hZ7.cell 1
      simp only [List.getElem?_cons_zero, List.getElem?_cons_succ] at z0 z1
      have fin : ∀ (w8 : World) (q0 q1 q2 : Int), Frm (fun _ => False) wr w8 → Blk w8 bY [.int .i64 q0, .int .i64 q1, .int .i64 q2] 131 → (if lg then pg else -1) = q0 → (if lp then pf else -1) = q1 → (if lp then pt else -1) = q2 →
          KR2 w3 bK bq bY (pre ++ keyPs lvs 0 (parts.take g)) w8 ∧ (pre ++ keyPs lvs 0 (parts.take g)).length ≤ 90000 ∧ bK ≤ w8.heap.size ∧ (-9223372036854775808 ≤ q0 ∧ q0 ≤ 9223372036854775807) ∧ (-9223372036854775808 ≤ q1 ∧ q1 ≤ 9223372036854775807) ∧ (-9223372036854775808 ≤ q2 ∧ q2 ≤ 9223372036854775807) ∧
          pre ++ keyPs lvs 0 (parts.take g) ++ put4 q0 ++ put4 q1 ++ put4 q2 = pre ++ keyPs lvs 0 (parts.take (g + 1)) := by
        intro w8 q0 q1 q2 hf8 hY8 h0 h1 h2
        obtain ⟨hp, hl⟩ := HPL.out
        have hk := HKRg.out.kr2 hf8 (by rw [HBB.out.1]; exact hY8.lt)
        rw [HBB.out.1] at hk
        refine ⟨hk, ?_, ?_, ?_, ?_, ?_, ?_⟩
        · rw [List.length_append, keyPs_len, List.length_take, hpre]; omega
        · have := hf8.size; omega
        · subst h0; split <;> omega
        · subst h1; split <;> omega
        · subst h2; split <;> omega
        · rw [List.take_add_one, hp, Option.toList_some, keyPs_snoc, List.length_take, Nat.min_eq_left (by omega), Nat.zero_add, List.getD_eq_getElem?_getD, hl, Option.getD_some, keyPt]
          simp only [h0, h1, h2, List.append_assoc]
      have FIN := Lib.hid fin
      have HF7 := Lib.hid (⟨hf7, hY7⟩ : _ ∧ _)
      clear fin HKRg hf7 hY7 hZ7 hfg HY
      have hls : (parts.take g).length = g := by rw [List.length_take]; omega
      generalize pre ++ keyPs lvs 0 (parts.take g) = acc at *
      generalize hnx : pre ++ keyPs lvs 0 (parts.take (g + 1)) = nxt at *
      cases lg <;> cases lp
      · go_upto_region 13 with fail
        have hf8 := (((HF7.out.1.set bY 0 (.int .i64 (-1)) (fun h => by have := HBB.out; omega)).set bY 1 (.int .i64 (-1)) (fun h => by have := HBB.out; omega)).set bY 2 (.int .i64 (-1)) (fun h => by have := HBB.out; omega))
        have hY8 := (((HF7.out.2.setSame 0 (.int .i64 (-1))).setSame 1 (.int .i64 (-1))).setSame 2 (.int .i64 (-1)))
        simp only [List.set_cons_succ, List.set_cons_zero] at hY8
        have F := FIN.out _ _ _ _ hf8 hY8 rfl rfl rfl
        clear u0 u1 u2 f0 f1 f2 z0 z1 FIN hlY hlZ HF7
        generalize (((w7.setCell ⟨bY, 0, none⟩ (.int .i64 (-1))).setCell ⟨bY, 1, none⟩ (.int .i64 (-1))).setCell ⟨bY, 2, none⟩ (.int .i64 (-1))) = w8 at *
        obtain ⟨hk8, hl8, hz8, hq0, hq1, hq2, hres⟩ := F
        have HK8 := Lib.hid hk8
        have HRES := Lib.hid hres
        have hlY := hk8.1
        clear hk8 hres hf8
        obtain ⟨u0, u1, u2, f0, f1, f2, _⟩ := blk3 hY8
        go_wp2_with fail
        refine (HK8.out.put (by omega) _ (by omega) hq0).mono ?_
        rintro e w9 ⟨rfl, hk9, hf9⟩
        have hY9 := hY8.frm hf9 (fun h => h rfl)
        have hz9 := hf9.size
        have HK9 := Lib.hid hk9
        clear u0 u1 u2 f0 f1 f2 hk9 hf9 hY8 hlY
        obtain ⟨u0, u1, u2, f0, f1, f2, _⟩ := blk3 hY9
        have hlY := hY9.lt
        go_wp2_with fail
        refine (HK9.out.put (by omega) _ (by rw [List.length_append]; simp [put4]; omega) hq1).mono ?_
        rintro e w10 ⟨rfl, hk10, hf10⟩
        have hY10 := hY9.frm hf10 (fun h => h rfl)
        have hz10 := hf10.size
        have HK10 := Lib.hid hk10
        clear u0 u1 u2 f0 f1 f2 hk10 hf10 hY9 hlY
        obtain ⟨u0, u1, u2, f0, f1, f2, _⟩ := blk3 hY10
        have hlY := hY10.lt
        go_wp2_with fail
        refine (HK10.out.put (by omega) _ (by rw [List.length_append, List.length_append]; simp [put4]; omega) hq2).mono ?_
        rintro e w11 ⟨rfl, hk11, hf11⟩
        rw [HRES.out] at hk11
        have HK11 := Lib.hid hk11
        clear u0 u1 u2 f0 f1 f2 hk11 hf11 hY10 hlY
        go_wp2_with fail
        go_roundw
        case measure => simp [intOf] <;> omega
        case rel => exact ⟨g + 1, by go_num, by omega, by rw [hnx]; exact HK11.out.kr⟩
      · go_upto_region 13 with fail
        have hf8 := (HF7.out.1.set bY 0 (.int .i64 (-1)) (fun h => by have := HBB.out; omega))
        have hY8 := (HF7.out.2.setSame 0 (.int .i64 (-1)))
        simp only [List.set_cons_succ, List.set_cons_zero] at hY8
        have F := FIN.out _ _ _ _ hf8 hY8 rfl rfl rfl
        clear u0 u1 u2 f0 f1 f2 z0 z1 FIN hlY hlZ HF7
        generalize (w7.setCell ⟨bY, 0, none⟩ (.int .i64 (-1))) = w8 at *
        obtain ⟨hk8, hl8, hz8, hq0, hq1, hq2, hres⟩ := F
        have HK8 := Lib.hid hk8
        have HRES := Lib.hid hres
        have hlY := hk8.1
        clear hk8 hres hf8
        obtain ⟨u0, u1, u2, f0, f1, f2, _⟩ := blk3 hY8
        go_wp2_with fail
        refine (HK8.out.put (by omega) _ (by omega) hq0).mono ?_
        rintro e w9 ⟨rfl, hk9, hf9⟩
        have hY9 := hY8.frm hf9 (fun h => h rfl)
        have hz9 := hf9.size
        have HK9 := Lib.hid hk9
        clear u0 u1 u2 f0 f1 f2 hk9 hf9 hY8 hlY
        obtain ⟨u0, u1, u2, f0, f1, f2, _⟩ := blk3 hY9
        have hlY := hY9.lt
        go_wp2_with fail
        refine (HK9.out.put (by omega) _ (by rw [List.length_append]; simp [put4]; omega) hq1).mono ?_
        rintro e w10 ⟨rfl, hk10, hf10⟩
        have hY10 := hY9.frm hf10 (fun h => h rfl)
        have hz10 := hf10.size
        have HK10 := Lib.hid hk10
        clear u0 u1 u2 f0 f1 f2 hk10 hf10 hY9 hlY
        obtain ⟨u0, u1, u2, f0, f1, f2, _⟩ := blk3 hY10
        have hlY := hY10.lt
        go_wp2_with fail
        refine (HK10.out.put (by omega) _ (by rw [List.length_append, List.length_append]; simp [put4]; omega) hq2).mono ?_
        rintro e w11 ⟨rfl, hk11, hf11⟩
        rw [HRES.out] at hk11
        have HK11 := Lib.hid hk11
        clear u0 u1 u2 f0 f1 f2 hk11 hf11 hY10 hlY
        go_wp2_with fail
        go_roundw
        case measure => simp [intOf] <;> omega
        case rel => exact ⟨g + 1, by go_num, by omega, by rw [hnx]; exact HK11.out.kr⟩
      · go_upto_region 13 with fail
        have hf8 := ((HF7.out.1.set bY 1 (.int .i64 (-1)) (fun h => by have := HBB.out; omega)).set bY 2 (.int .i64 (-1)) (fun h => by have := HBB.out; omega))
        have hY8 := ((HF7.out.2.setSame 1 (.int .i64 (-1))).setSame 2 (.int .i64 (-1)))
        simp only [List.set_cons_succ, List.set_cons_zero] at hY8
        have F := FIN.out _ _ _ _ hf8 hY8 rfl rfl rfl
        clear u0 u1 u2 f0 f1 f2 z0 z1 FIN hlY hlZ HF7
        generalize ((w7.setCell ⟨bY, 1, none⟩ (.int .i64 (-1))).setCell ⟨bY, 2, none⟩ (.int .i64 (-1))) = w8 at *
        obtain ⟨hk8, hl8, hz8, hq0, hq1, hq2, hres⟩ := F
        have HK8 := Lib.hid hk8
        have HRES := Lib.hid hres
        have hlY := hk8.1
        clear hk8 hres hf8
        obtain ⟨u0, u1, u2, f0, f1, f2, _⟩ := blk3 hY8
        go_wp2_with fail
        refine (HK8.out.put (by omega) _ (by omega) hq0).mono ?_
        rintro e w9 ⟨rfl, hk9, hf9⟩
        have hY9 := hY8.frm hf9 (fun h => h rfl)
        have hz9 := hf9.size
        have HK9 := Lib.hid hk9
        clear u0 u1 u2 f0 f1 f2 hk9 hf9 hY8 hlY
        obtain ⟨u0, u1, u2, f0, f1, f2, _⟩ := blk3 hY9
        have hlY := hY9.lt
        go_wp2_with fail
        refine (HK9.out.put (by omega) _ (by rw [List.length_append]; simp [put4]; omega) hq1).mono ?_
        rintro e w10 ⟨rfl, hk10, hf10⟩
        have hY10 := hY9.frm hf10 (fun h => h rfl)
        have hz10 := hf10.size
        have HK10 := Lib.hid hk10
        clear u0 u1 u2 f0 f1 f2 hk10 hf10 hY9 hlY
        obtain ⟨u0, u1, u2, f0, f1, f2, _⟩ := blk3 hY10
        have hlY := hY10.lt
        go_wp2_with fail
        refine (HK10.out.put (by omega) _ (by rw [List.length_append, List.length_append]; simp [put4]; omega) hq2).mono ?_
        rintro e w11 ⟨rfl, hk11, hf11⟩
        rw [HRES.out] at hk11
        have HK11 := Lib.hid hk11
        clear u0 u1 u2 f0 f1 f2 hk11 hf11 hY10 hlY
        go_wp2_with fail
        go_roundw
        case measure => simp [intOf] <;> omega
        case rel => exact ⟨g + 1, by go_num, by omega, by rw [hnx]; exact HK11.out.kr⟩
      · go_upto_region 13 with fail
        have hf8 := HF7.out.1
        have hY8 := HF7.out.2
        have F := FIN.out _ _ _ _ hf8 hY8 rfl rfl rfl
        clear u0 u1 u2 f0 f1 f2 z0 z1 FIN hlY hlZ HF7
        obtain ⟨hk8, hl8, hz8, hq0, hq1, hq2, hres⟩ := F
        have HK8 := Lib.hid hk8
        have HRES := Lib.hid hres
        have hlY := hk8.1
        clear hk8 hres hf8
        obtain ⟨u0, u1, u2, f0, f1, f2, _⟩ := blk3 hY8
        go_wp2_with fail
        refine (HK8.out.put (by omega) _ (by omega) hq0).mono ?_
        rintro e w9 ⟨rfl, hk9, hf9⟩
        have hY9 := hY8.frm hf9 (fun h => h rfl)
        have hz9 := hf9.size
        have HK9 := Lib.hid hk9
        clear u0 u1 u2 f0 f1 f2 hk9 hf9 hY8 hlY
        obtain ⟨u0, u1, u2, f0, f1, f2, _⟩ := blk3 hY9
        have hlY := hY9.lt
        go_wp2_with fail
        refine (HK9.out.put (by omega) _ (by rw [List.length_append]; simp [put4]; omega) hq1).mono ?_
        rintro e w10 ⟨rfl, hk10, hf10⟩
        have hY10 := hY9.frm hf10 (fun h => h rfl)
        have hz10 := hf10.size
        have HK10 := Lib.hid hk10
        clear u0 u1 u2 f0 f1 f2 hk10 hf10 hY9 hlY
        obtain ⟨u0, u1, u2, f0, f1, f2, _⟩ := blk3 hY10
        have hlY := hY10.lt
        go_wp2_with fail
        refine (HK10.out.put (by omega) _ (by rw [List.length_append, List.length_append]; simp [put4]; omega) hq2).mono ?_
        rintro e w11 ⟨rfl, hk11, hf11⟩
        rw [HRES.out] at hk11
        have HK11 := Lib.hid hk11
        clear u0 u1 u2 f0 f1 f2 hk11 hf11 hY10 hlY
        go_wp2_with fail
        go_roundw
        case measure => simp [intOf] <;> omega
        case rel => exact ⟨g + 1, by go_num, by omega, by rw [hnx]; exact HK11.out.kr⟩
    · obtain rfl : g = n := by omega
      have hall : parts.take g = parts := List.take_of_length_le (by omega)
      rw [hall] at hKRg
      have hpre2 : (pre ++ keyPs lvs 0 parts).length = 8 + 12 * g := by rw [List.length_append, keyPs_len, hpre, hpl]
      generalize hp2 : pre ++ keyPs lvs 0 parts = pre2 at *
      have HKRg := Lib.hid hKRg
      clear hKRg
      go_wp2_with fail
      go_loopw [77] (fun i wr => KJ w3 bK bq pre2 at_ turns i wr) (fun i _ => m - (intOf i).toNat)
      case atStart => exact ⟨0, rfl, by omega, by simpa using HKRg.out⟩
      case round =>
        clear x0 x1 x2 x3 y0 y1 y2 y3 lx hXg hzg HKRg
        obtain ⟨k, rfl, hk, hKRk⟩ := hrel
        have hXk := hX3.frm hKRk.1 (fun h => by omega)
        obtain ⟨x0, x1, x2, x3, y0, y1, y2, y3, lx⟩ := blk4 hXk
        have hzk := hKRk.1.size
        by_cases hkm : k < m
        · obtain ⟨⟨tm, tb⟩, ht⟩ : ∃ t, turns[k]? = some t := ⟨_, List.getElem?_eq_getElem (by omega)⟩
          have hbt := HBT.out _ (List.mem_of_getElem? ht)
          simp only at hbt
          obtain ⟨e1, e2⟩ := flatN_get turns k _ ht
          obtain ⟨tb_, to_, rfl, htb, htc⟩ := (hN3.frm hKRk.1 (fun k h => by have := h.2; omega)).elem k hkm
          have p0 := htc 0 _ e1
          have p1 := htc 1 _ e2
          rw [Nat.add_zero] at p0
          have hY := Blk.new wr [.int .i64 tm, .int .i64 tb] 133
          have hXk2 := hXk.alloc (.cells #[.int .i64 tm, .int .i64 tb] 133)
          have hfk : Frm (fun _ => False) wr (wr.alloc (.cells #[.int .i64 tm, .int .i64 tb] 133)) := (Frm.refl _ _).alloc _
          have HKR := Lib.hid (hKRk.frm hfk)
          have hzz : wr.heap.size < (wr.alloc (.cells #[.int .i64 tm, .int .i64 tb] 133)).heap.size := hY.lt
          have hnx : pre2 ++ (turns.take k).flatMap (keyTn at_) ++ put4 (2 * tm + if tb = at_ then 1 else 0) = pre2 ++ (turns.take (k + 1)).flatMap (keyTn at_) := by
            rw [List.take_add_one, ht, Option.toList_some, List.flatMap_append, List.append_assoc]
            simp [keyTn]
          have hla : (pre2 ++ (turns.take k).flatMap (keyTn at_)).length ≤ 90000 := by rw [List.length_append, keyTn_len, List.length_take]; omega
          generalize pre2 ++ (turns.take k).flatMap (keyTn at_) = acc at *
          generalize hnx2 : pre2 ++ (turns.take (k + 1)).flatMap (keyTn at_) = nxt at *
          have HNX := Lib.hid hnx
          clear e1 e2 htc ht hKRk hnx
          go_upto_region 20 with fail
          clear p0 p1 x0 x1 x2 x3 y0 y1 y2 y3 lx hXk
          generalize wr.alloc (.cells #[.int .i64 tm, .int .i64 tb] 133) = w6 at *
          obtain ⟨bY, hbY⟩ : ∃ bY, wr.heap.size = bY := ⟨_, rfl⟩
          simp only [hbY] at hY hzz hzk ⊢
          have HBY := Lib.hid hbY
          clear hbY
          obtain ⟨x0, x1, x2, x3, y0, y1, y2, y3, lx⟩ := blk4 hXk2
          have u0 := hY.cell 0
          have u1 := hY.cell 1
          simp only [List.getElem?_cons_zero, List.getElem?_cons_succ] at u0 u1
          have hlY := hY.lt
          have hq1 : IntKind.i64.wrap (2 * tm) = 2 * tm := IntWalk.i64_in _ (by omega)
          have hq2 : IntKind.i64.wrap (2 * tm + 1) = 2 * tm + 1 := IntWalk.i64_in _ (by omega)
          by_cases hta : tb = at_
          · have hnn := HNX.out
            rw [if_pos hta] at hnn
            have HNN := Lib.hid hnn
            subst hta
            clear hnn HNX
            go_wp2_with fail
            refine (HKR.out.put (by omega) _ (by omega) (by omega)).mono ?_
            rintro e w9 ⟨rfl, hk9⟩
            rw [HNN.out] at hk9
            have HK9 := Lib.hid hk9
            clear hk9 x0 x1 x2 x3 y0 y1 y2 y3 lx u0 u1 hlY
            go_wp2_with fail
            go_roundw
            case measure => simp [intOf] <;> omega
            case rel => exact ⟨k + 1, by go_num, by omega, by rw [hnx2]; exact HK9.out⟩
          · have hnn := HNX.out
            rw [if_neg hta, Int.add_zero] at hnn
            have HNN := Lib.hid hnn
            clear hnn HNX
            go_wp2_with fail
            refine (HKR.out.put (by omega) _ (by omega) (by omega)).mono ?_
            rintro e w9 ⟨rfl, hk9⟩
            rw [HNN.out] at hk9
            have HK9 := Lib.hid hk9
            clear hk9 x0 x1 x2 x3 y0 y1 y2 y3 lx u0 u1 hlY
            go_wp2_with fail
            go_roundw
            case measure => simp [intOf] <;> omega
            case rel => exact ⟨k + 1, by go_num, by omega, by rw [hnx2]; exact HK9.out⟩
        · obtain rfl : k = m := by omega
          have hall2 : turns.take k = turns := List.take_of_length_le (by omega)
          rw [hall2] at hKRk
          have hll2 : 0 < (pre2 ++ turns.flatMap (keyTn at_)).length := by rw [List.length_append]; omega
          have hres : (⟨(pre2 ++ turns.flatMap (keyTn at_)).toArray⟩ : ByteArray) = ⟨(pre ++ keyPs lvs 0 parts ++ turns.flatMap (keyTn at_)).toArray⟩ := by rw [hp2]
          have HRES := Lib.hid hres
          clear hres hp2
          generalize pre2 ++ turns.flatMap (keyTn at_) = acc at *
          obtain ⟨hfk, F, hF, v, hBq, hFq, hS⟩ := hKRk
          obtain ⟨Aq, cq, rfl⟩ := hS.form
          obtain ⟨u0, _, uq⟩ := blk1 hBq
          have hcv : ∃ bA, Aq = some ⟨bA, 0, none⟩ ∧ (convert 158 9 (.slice (some ⟨bA, 0, none⟩) acc.length cq)).run Try.prog wr = .ok (.string ⟨acc.toArray⟩) wr := by
            generalize hxs : acc.map U8 = xs at hS
            generalize hnn : acc.length = nn at hS
            cases hS with
            | nil => omega
            | @at_ g _ _ _ rest hF hb hx hr hn hm => 
              subst hxs
              exact ⟨g, rfl, run_bytes_str 158 5 9 Try.underlying158 Try.underlying5 Try.underlying9 (rest := rest) hb hnn⟩
          obtain ⟨bA, rfl, hcv⟩ := hcv
          have hff := hf3.then hfk (fun i h _ => by have := HBX.out; omega)
          clear hS hBq hfk x0 x1 x2 x3 y0 y1 y2 y3 lx
          go_wp2_with fail
          refine bodyPost_ret (results_one rfl (RV.tmp rfl)) rfl ?_
          refine ⟨?_, hff⟩
          rw [HPRE.out, ← HRES.out]
          rfl
end Go.Proofs.Ytoadmpochaeohaa
end
