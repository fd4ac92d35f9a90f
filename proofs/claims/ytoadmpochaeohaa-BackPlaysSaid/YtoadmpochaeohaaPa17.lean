/-
  Layer 20: run, walked.
-/
import Derived.Test.YtoadmpochaeohaaPa16
section
set_option linter.unusedVariables false
set_option linter.unusedSimpArgs false
set_option maxRecDepth 100000
namespace Go.Proofs.Ytoadmpochaeohaa
open Go.RowKit

@[go_sem] theorem as140_140 (v : Value) (w : World) : (Instr.typeAssert (.iface 140 v) 125 140 true).run Try.prog w = .ok (.tuple #[v, .bool true]) w := by kernel_rfl
@[go_sem] theorem as136_140 (v : Value) (w : World) : (Instr.typeAssert (.iface 136 v) 125 140 true).run Try.prog w = .ok (.tuple #[.agg #[.string ⟨#[]⟩], .bool false]) w := by kernel_rfl
@[go_sem] theorem as136_136 (v : Value) (w : World) : (Instr.typeAssert (.iface 136 v) 125 136 true).run Try.prog w = .ok (.tuple #[v, .bool true]) w := by kernel_rfl
theorem Lk.mxl {w : World} {E D : Nat → Prop} {w1 w2 : World} {E1 D1 E2 D2 : Nat → Prop} (h : Lk w E D w1 E1 D1) (h2 : ∀ k, E2 k → E1 k ∨ w1.heap.size ≤ k) (h3 : ∀ k, D1 k → k < w1.heap.size → D2 k) (h4 : Frm E1 w1 w2) : Lk w E D w2 E2 D2 := by
  have hz := h.f.size
  exact ⟨fun k hk => by rcases h2 k hk with h' | h'; exact h.e k h'; exact .inr (by omega), fun k hk hl => h3 k (h.d k hk hl) (by omega), h.f.then h4 (fun k hk hl => by rcases h.e k hk with h' | h'; exact h'; omega)⟩
theorem SM.dropAll {w : World} {bm : Nat} {seen : List Key} (h : SM w bm seen) (k : Key) (hk : k.length ≤ 100000) :
    ∃ w', (∀ ty, (Builtin.delete_ #[75, 9] ty #[.map (some bm), kV k]).run Try.prog w = .ok (.tuple #[]) w') ∧ SM w' bm (seen.erase k) ∧ Frm (fun k => k = bm) w w' := by
  obtain ⟨w', h1, h2, h3⟩ := h.drop k hk 0
  exact ⟨w', fun ty => h1, h2, h3⟩
theorem popM {E D : Nat → Prop} {b g bm : Nat} {s : Stt} {m : Mc} {line : ByteArray} {pile : List Fr} {seen : List Key} {steps kept : Nat} {w : World} (f : Fr)
    (h : MM w E D b g bm s m line (f :: pile) seen steps kept) (hb : pile.length ≤ 1073741000) :
    ∃ v, FrV w D f v ∧ Calls Try.prog 54 #[.pointer (some ⟨g, 0, none⟩)] w fun e w' => e = .returned (.tuple #[v, .bool true]) ∧ MM w' E D b g bm s m line pile seen steps kept ∧ Frm (fun k => E k ∧ k ≠ b ∧ k ≠ bm) w w' := by
  obtain ⟨vs, h1, h2⟩ := h.ps
  cases h2 with
  | @cons _ v _ vs hf h2 =>
  rw [List.reverse_cons] at h1
  refine ⟨v, hf, (popB1 _ g vs.reverse v w h1 (by rw [List.length_reverse, ← h2.length_eq]; omega)).mono ?_⟩
  rintro e w' ⟨rfl, p1, p2⟩
  have hd : ∀ k, D k → ¬ (E k ∧ k ≠ b ∧ k ≠ bm) := fun k hk he => h.apart k hk he.1
  exact ⟨rfl, ⟨h.obj.frm p2 (fun h => h.2.1 rfl), h.bE, h.mE, h.ne, ⟨vs, p1, forall2_mono (fun a b hh => hh.frm p2 hd) h2⟩, h.map.frm p2 (fun h => h.2.2 rfl), h.sta.frm p2 hd, h.apart⟩, p2⟩
theorem popM0 {E D : Nat → Prop} {b g bm : Nat} {s : Stt} {m : Mc} {line : ByteArray} {seen : List Key} {steps kept : Nat} {w : World}
    (h : MM w E D b g bm s m line [] seen steps kept) : Calls Try.prog 54 #[.pointer (some ⟨g, 0, none⟩)] w fun e w' => e = .returned (.tuple #[.nilIface, .bool false]) ∧ w = w' := by
  obtain ⟨vs, h1, h2⟩ := h.ps
  cases h2 with
  | nil => exact popB0 _ g w h1
theorem onS_len (m : Mc) (line : List UInt8) (c : Cf) : (onS m line c).length ≤ 2 := by
  unfold onS
  split
  · simp
  · rename_i i _
    by_cases h1 : i.op = 1
    · rw [if_pos h1]; split <;> (try split) <;> simp
    rw [if_neg h1]
    by_cases h2 : i.op = 2
    · rw [if_pos h2]; simp
    rw [if_neg h2]
    by_cases h3 : i.op = 3
    · rw [if_pos h3]; simp
    rw [if_neg h3]
    by_cases h4 : i.op = 4
    · rw [if_pos h4]; split <;> simp
    rw [if_neg h4]
    by_cases h5 : i.op = 5
    · rw [if_pos h5]; split <;> simp
    rw [if_neg h5]
    by_cases h6 : i.op = 6 ∨ i.op = 7
    · rw [if_pos h6]; simp
    rw [if_neg h6]
    by_cases h8 : i.op = 8
    · rw [if_pos h8]; split <;> simp
    rw [if_neg h8]
    by_cases h9 : i.op = 9
    · rw [if_pos h9]; simp
    rw [if_neg h9]
    by_cases h10 : i.op = 10
    · rw [if_pos h10]
      simp only
      split
      · simp
      · rw [List.length_append]
        have h1 : ∀ (p : Prop) [Decidable p] (x : Cf), (if p then [x] else []).length ≤ 1 := fun p _ x => by split <;> simp
        exact Nat.add_le_add (h1 _ _) (h1 _ _)
    rw [if_neg h10]
    simp
theorem flatP_snoc (l : List Pt) (p : Pt) : flatP (l ++ [p]) = flatP l ++ [.int .i64 p.began, .int .i64 p.frm, .int .i64 p.til] := by simp [flatP]
theorem flatN_snoc (l : List Tn) (p : Tn) : flatN (l ++ [p]) = flatN l ++ [.int .i64 p.many, .int .i64 p.began] := by simp [flatN]
def cntS (slot : List Int) (k : Nat) : Nat := ((slot.take k).filter (0 ≤ ·)).length
theorem cntS_succ {slot : List Int} {k : Nat} {z : Int} (h : slot[k]? = some z) : cntS slot (k + 1) = cntS slot k + if 0 ≤ z then 1 else 0 := by
  unfold cntS
  rw [List.take_add_one, h, Option.toList_some, List.filter_append, List.length_append]
  congr 1
  by_cases hz : 0 ≤ z <;> simp [hz]
/-- Between two slots. -/
def L1 (w5 : World) (bC sn at_ : Nat) (slot : List Int) (i : Value) (wr : World) : Prop :=
  ∃ (k : Nat) (v : Value), i = .int .i64 k ∧ k ≤ sn ∧ Frm (fun _ => False) w5 wr ∧ Blk wr bC [.int .i64 0, .int .i64 at_, v, .slice none 0 0] 129 ∧ Sl wr (fun j => w5.heap.size ≤ j ∧ j ≠ bC) 131 3 v (cntS slot k) (flatP (List.replicate (cntS slot k) ⟨-1, -1, -1⟩))
/-- Between two counters. -/
def L2 (w5 : World) (bC mn at_ : Nat) (pv : Value) (i : Value) (wr : World) : Prop :=
  ∃ (k : Nat) (v : Value), i = .int .i64 k ∧ k ≤ mn ∧ Frm (fun j => j = bC) w5 wr ∧ Blk wr bC [.int .i64 0, .int .i64 at_, pv, v] 129 ∧ Sl wr (fun j => w5.heap.size ≤ j) 133 2 v k (flatN (List.replicate k ⟨0, -1⟩))
/-- Between two rounds of the machine. -/
def RI (w : World) (D : Nat → Prop) (b gp bm : Nat) (s : Stt) (m : Mc) (line : ByteArray) (steps f : Nat) (r : Rn) (g : Nat) (ev ov : Value) (wr : World) : Prop :=
  ∃ (pile : List Fr) (rn : Rn) (E' D' : Nat → Prop), runS m line.toList g pile rn = some r ∧ MM wr E' D' b gp bm s m line pile rn.seen rn.steps rn.kept ∧ Lk w (fun k => k = b) D wr E' D' ∧
    (∀ c, .look c ∈ pile → CW m line.size c) ∧ (∀ k, .leave k ∈ pile → k.length ≤ 100000) ∧ pile.length + 3 * g ≤ 3 * f + 1 ∧ rn.seen.length + g ≤ f ∧ rn.steps + g ≤ steps + f ∧ rn.kept ≤ 2305843009213693952 ∧
    ev = .int .i64 (rn.best.getD 0 : Nat) ∧ ov = .bool rn.best.isSome

set_option maxHeartbeats 16000000 in
theorem runM {b : Nat} {s : Stt} {m : Mc} {line line0 : ByteArray} {steps kept : Nat} {sv pv : Value} {D : Nat → Prop} {w : World} (at_ f : Nat) (r : Rn) (hW : MW m)
    (hB : Blk w b (cellsB s m sv pv line0 steps kept) 78) (hS : Sta w D s m) (hDb : ¬ D b) (hat : at_ ≤ line.size) (hls : line.size ≤ 900000) (hin : 0 < m.ins.length)
    (hr : runS m line.toList f [.look (startS m at_)] ⟨[], steps, kept, none⟩ = some r) (hf : f ≤ 100000000) (hst : steps ≤ 2305843009213693952) (hkp : kept ≤ 2305843009213693952) :
    Calls Try.prog 41 #[.pointer (some ⟨b, 0, none⟩), .string line, .int .i64 at_] w fun e w' => e = .returned (.tuple #[.int .i64 (r.best.getD 0 : Nat), .bool r.best.isSome]) ∧ (∃ sv' pv', Blk w' b (cellsB s m sv' pv' line r.steps r.kept) 78) ∧ Frm (fun k => k = b) w w' := by
  obtain ⟨PA, pn, pcap, SA, sn, sc, MA, mn, mc, LA, ln, lc, gr, co⟩ := s
  obtain ⟨RV0, hRV⟩ : ∃ v : Value, v = .tuple #[.int .i64 (r.best.getD 0 : Nat), .bool r.best.isSome] := ⟨_, rfl⟩
  have hlt := hB.lt
  have hfz := fun j => hB.frozen j
  have f8 := hfz 8
  have f9 := hfz 9
  have f10 := hfz 10
  have c8 := hB.cell 8
  have c9 := hB.cell 9
  have c10 := hB.cell 10
  simp only [cellsB, List.getElem?_cons_zero, List.getElem?_cons_succ] at c8 c9 c10
  clear hfz
  have hmm := @run_makeMap Try.prog
  have hB1 := (hB.alloc (.map #[] 0))
  have hf1 : Frm (fun _ => False) w (w.alloc (.map #[] 0)) := (Frm.refl _ _).alloc _
  have hS1 := (hS.mono (G := fun k => D k ∧ k < w.heap.size) (fun k h l => ⟨h, l⟩)).frm hf1 (fun _ _ h => h)
  have hSM := SM.new w
  have hz1 : w.heap.size < (w.alloc (.map #[] 0)).heap.size := by unfold World.alloc; rw [Array.size_push]; omega
  go_enter Try.func41, Try.ntmps41
  go_wp2_with fail
  clear hmm
  generalize w.alloc (.map #[] 0) = w1 at *
  obtain ⟨bm, hbm⟩ : ∃ bm, w.heap.size = bm := ⟨_, rfl⟩
  simp only [hbm] at hSM hz1 hS1 ⊢
  refine (newB _).mono ?_
  rintro e w2 ⟨rfl, hw2⟩
  obtain ⟨gp, hgp⟩ : ∃ gp, w1.heap.size = gp := ⟨_, rfl⟩
  have hP2 := newPS w1
  rw [hgp] at hz1 hP2
  have hf2 : Frm (fun _ => False) w1 w2 := by subst hw2; exact (Frm.refl _ _).alloc _
  rw [← hw2] at hP2
  simp only [hgp]
  have hB2 := hB1.frm hf2 (fun h => h)
  have hS2 := hS1.frm hf2 (fun _ _ h => h)
  have hSM2 := hSM.frm hf2 (fun h => h)
  have hbb : b ≠ bm ∧ b ≠ gp := ⟨by omega, by omega⟩
  have hB5 := ((hB2.setSame 10 (.string line)).setSame 8 (.map (some bm))).setSame 9 (.pointer (some ⟨gp, 0, none⟩))
  simp only [cellsB, List.set_cons_succ, List.set_cons_zero] at hB5
  have hf25 : Frm (fun k => k = b) w2 (((w2.setCell ⟨b, 10, none⟩ (.string line)).setCell ⟨b, 8, none⟩ (.map (some bm))).setCell ⟨b, 9, none⟩ (.pointer (some ⟨gp, 0, none⟩))) :=
    (((Frm.refl (fun k => k = b) w2).set b 10 _ (fun _ => rfl)).set b 8 _ (fun _ => rfl)).set b 9 _ (fun _ => rfl)
  have hM5 : MM (((w2.setCell ⟨b, 10, none⟩ (.string line)).setCell ⟨b, 8, none⟩ (.map (some bm))).setCell ⟨b, 9, none⟩ (.pointer (some ⟨gp, 0, none⟩))) (fun k => k = b ∨ k = bm ∨ k = gp) (fun k => D k ∧ k < bm) b gp bm ⟨PA, pn, pcap, SA, sn, sc, MA, mn, mc, LA, ln, lc, gr, co⟩ m line [] [] steps kept :=
    ⟨hB5, .inl rfl, .inr (.inl rfl), hbb.1, ⟨[], (hP2.mono (G := fun k => (k = b ∨ k = bm ∨ k = gp) ∧ k ≠ b ∧ k ≠ bm) (fun k h _ => by subst h; exact ⟨.inr (.inr rfl), hbb.2.symm, by omega⟩)).frm hf25 (fun k h e => h.2.1 e), .nil⟩, hSM2.frm hf25 (fun e => hbb.1 e.symm), hS2.frm hf25 (fun k h e => hDb (e ▸ h.1)), fun k h e => by rcases e with rfl | rfl | rfl; exact hDb h.1; omega; omega⟩
  have hL5 : Lk w (fun k => k = b) D (((w2.setCell ⟨b, 10, none⟩ (.string line)).setCell ⟨b, 8, none⟩ (.map (some bm))).setCell ⟨b, 9, none⟩ (.pointer (some ⟨gp, 0, none⟩))) (fun k => k = b ∨ k = bm ∨ k = gp) (fun k => D k ∧ k < bm) :=
    ⟨fun k h => by rcases h with h | h | h; exact .inl h; exact .inr (by omega); exact .inr (by omega), fun k h l => ⟨h, by omega⟩, ((hf1.then hf2 (fun _ h _ => h)).mono (fun _ h _ => h.elim)).then hf25 (fun k h _ => h)⟩
  have c8 := hB2.cell 8
  have c9 := hB2.cell 9
  have c10 := hB2.cell 10
  have f8 := hB2.frozen 8
  have f9 := hB2.frozen 9
  have f10 := hB2.frozen 10
  simp only [cellsB, List.getElem?_cons_zero, List.getElem?_cons_succ] at c8 c9 c10
  have lb := hB2.lt
  clear hw2
  go_upto_region 2 with fail
  clear c8 c9 c10 f8 f9 f10 lb hB5 hB2 hS2 hSM2 hf2 hf25 hP2 hB1 hf1 hS1 hSM
  generalize ((w2.setCell ⟨b, 10, none⟩ (.string line)).setCell ⟨b, 8, none⟩ (.map (some bm))).setCell ⟨b, 9, none⟩ (.pointer (some ⟨gp, 0, none⟩)) = w5 at *
  have hC0 := Blk.new w5 [.int .i64 0, .int .i64 at_, .slice none 0 0, .slice none 0 0] 129
  have hfC : Frm (fun _ => False) w5 (w5.alloc (.cells #[.int .i64 0, .int .i64 at_, .slice none 0 0, .slice none 0 0] 129)) := (Frm.refl _ _).alloc _
  have hB6 := (hM5.frm hfC).obj
  have b5 := hB6.cell 5
  simp only [cellsB, List.getElem?_cons_zero, List.getElem?_cons_succ] at b5
  have lb := hB6.lt
  go_upto_region 3 with fail
  generalize w5.alloc (.cells #[.int .i64 0, .int .i64 at_, .slice none 0 0, .slice none 0 0] 129) = w6 at *
  obtain ⟨bC, hbC⟩ : ∃ bC, w5.heap.size = bC := ⟨_, rfl⟩
  simp only [hbC] at hC0 ⊢
  have HBC := Lib.hid hbC
  clear hbC
  have hsr := hM5.sta.slot
  have hmr := hM5.sta.most
  simp only at hsr hmr
  have hsb1 := hW.sl
  have hsb2 := hW.nm
  have hsl : m.slot.length = sn := by have := hsr.len; rw [List.length_map] at this; omega
  have hml : m.most.length = mn := by have := hmr.len; rw [List.length_map] at this; omega
  have HSLN := Lib.hid (⟨hsl, hml⟩ : _ ∧ _)
  have hsnb : sn ≤ 1000 := by omega
  have hmnb : mn ≤ 1000 := by omega
  clear hsl hml
  have HE5 : Hid (b < w5.heap.size ∧ bm < w5.heap.size ∧ gp < w5.heap.size) := Lib.hid ⟨hM5.obj.lt, hM5.map.lt, by obtain ⟨_, h, _⟩ := hM5.ps; exact h.lt⟩
  have HM5 := Lib.hid hM5
  clear hM5
  go_wp2_with fail
  go_loopw [34] (fun i wr => L1 w5 bC sn at_ m.slot i wr) (fun i _ => sn - (intOf i).toNat)
  case atStart => exact ⟨0, .slice none 0 0, rfl, by omega, hfC, hC0, Sl.nil⟩
  case round =>
    clear b5 lb hB6 hC0 hfC
    obtain ⟨k, v, rfl, hk, hfr, hCr, hsv⟩ := hrel
    obtain ⟨x0, x1, x2, x3, y0, y1, y2, y3, lx⟩ := blk4 hCr
    obtain ⟨A0, cA0, rfl⟩ := hsv.form
    by_cases hks : k < sn
    · obtain ⟨sb, so, rfl, hsb, hsc⟩ := (hsr.frm hfr (fun _ _ h => h)).elem k hks
      obtain ⟨z, hz⟩ : ∃ z, m.slot[k]? = some z := ⟨_, List.getElem?_eq_getElem (by rw [HSLN.out.1]; exact hks)⟩
      have s0 := hsc 0 (.int .i64 z) (by rw [Nat.mul_one, Nat.add_zero, List.getElem?_map, hz]; rfl)
      rw [Nat.mul_one, Nat.add_zero] at s0
      have HCN := Lib.hid (cntS_succ hz)
      have hcn : cntS m.slot k ≤ 1000 := by
        have h1 := hW.ns
        unfold nsS at h1
        have h2 : cntS m.slot k ≤ (m.slot.filter (0 ≤ ·)).length := ((List.take_sublist k m.slot).filter _).length_le
        omega
      clear hz hsc
      by_cases hz0 : 0 ≤ z
      · have d1 : decide (0 ≤ z) = true := decide_eq_true hz0
        go_wp2_with (with_reducible refine stop_at 44 rfl ?_)
        unfold Stop
        have hX := Blk.new wr [.int .i64 (-1), .int .i64 (-1), .int .i64 (-1)] 131
        refine op_append rfl _ _ _ rfl 131 _ 3 24 Try.underlying126 infoPt rfl (by omega) (hsv.low.alloc _) rfl ⟨wr.heap.size, 0, none⟩ 1 1 [.int .i64 (-1), .int .i64 (-1), .int .i64 (-1)] rfl rfl (fun j u hu => by rw [hX.cellAdd 0 j, Nat.zero_add]; exact hu) (by intro u hu; simp at hu; rcases hu with rfl | rfl | rfl <;> rfl) (by simp only [maxLen]; omega) (by omega) ?_
        intro v3 w3 hf3 hs3
        obtain ⟨A3, c3, rfl⟩ := hs3.form
        have hbc := HBC.out
        have hzr := hfr.size
        have hf03 := (hfr.alloc (.cells #[.int .i64 (-1), .int .i64 (-1), .int .i64 (-1)] 131)).then hf3 (fun i h hi => by have := h.1.1; omega)
        have hC3 := (hCr.alloc (.cells #[.int .i64 (-1), .int .i64 (-1), .int .i64 (-1)] 131)).frm hf3 (fun h => h.1.2 rfl)
        have hza : wr.heap.size < (wr.alloc (.cells #[.int .i64 (-1), .int .i64 (-1), .int .i64 (-1)] 131)).heap.size := hX.lt
        have hcc := HCN.out
        rw [if_pos hz0] at hcc
        have HR : Hid (L1 w5 bC sn at_ m.slot (.int .i64 ((k + 1 : Nat) : Int)) (w3.setCell ⟨bC, 2, none⟩ (.slice A3 (cntS m.slot k + 1) c3))) := Lib.hid ⟨k + 1, _, rfl, by omega, hf03.set bC 2 _ (fun h => by omega), hC3.setSame 2 _, by
          rw [hcc, List.replicate_succ', flatP_snoc]
          exact (hs3.set bC 2 (.slice A3 (cntS m.slot k + 1) c3) (by rintro (h | h); exact h.1.2 rfl; omega)).mono (by rintro j (h | h) _; exact h.1; exact ⟨by omega, by omega⟩)⟩
        clear hbc hcc x0 x1 x2 x3 y0 y1 y2 y3 lx hs3 hf3 hX hsv hCr s0 hsb
        obtain ⟨x0, x1, x2, x3, y0, y1, y2, y3, lx⟩ := blk4 hC3
        have hwk : IntKind.i64.wrap ((k : Int) + 1) = ((k + 1 : Nat) : Int) := by rw [IntWalk.i64_in _ (by omega)]; omega
        go_wp2_with fail
        go_roundw
        case measure => simp [intOf] <;> omega
        case rel => exact HR.out
      · have d1 : decide (0 ≤ z) = false := decide_eq_false hz0
        have hcc := HCN.out
        rw [if_neg hz0, Nat.add_zero] at hcc
        have HCC := Lib.hid hcc
        clear hcc
        go_wp2_with fail
        go_roundw
        case measure => simp [intOf] <;> omega
        case rel => exact ⟨k + 1, _, by go_num, by omega, hfr, hCr, by rw [HCC.out]; exact hsv⟩
    · obtain rfl : k = sn := by omega
      have hcs : cntS m.slot k = nsS m := by unfold cntS nsS; rw [List.take_of_length_le (by rw [HSLN.out.1]; omega)]
      obtain ⟨w7, hw7⟩ : ∃ w7, w7 = wr := ⟨_, rfl⟩
      subst hw7
      generalize cntS m.slot k = ns at *
      have hM7 := HM5.out.frm hfr
      have b6 := hM7.obj.cell 6
      simp only [cellsB, List.getElem?_cons_zero, List.getElem?_cons_succ] at b6
      have lb := hM7.obj.lt
      have hnsb : ns ≤ 1000 := by have := hW.ns; omega
      have HCS := Lib.hid hcs
      have HSV := Lib.hid hsv
      have HFR := Lib.hid hfr
      have HL5 := Lib.hid hL5
      clear hsv hfr hL5 hM7 hcs
      go_wp2_with fail
      go_loopw [52] (fun i wx => L2 w7 bC mn at_ (.slice A0 ns cA0) i wx) (fun i _ => mn - (intOf i).toNat)
      case atStart => exact ⟨0, .slice none 0 0, rfl, by omega, Frm.refl _ _, hCr, Sl.nil⟩
      case round =>
        clear b6 lb x0 x1 x2 x3 y0 y1 y2 y3 lx
        obtain ⟨j, v, rfl, hj, hfr, hCj, hsv⟩ := hrel
        have hbw := hCr.lt
        obtain ⟨x0, x1, x2, x3, y0, y1, y2, y3, lx⟩ := blk4 hCj
        obtain ⟨B0, cB0, rfl⟩ := hsv.form
        by_cases hjm : j < mn
        · have hX := Blk.new wr [.int .i64 0, .int .i64 (-1)] 133
          have hza : wr.heap.size < (wr.alloc (.cells #[.int .i64 0, .int .i64 (-1)] 133)).heap.size := hX.lt
          go_wp2_with (with_reducible refine stop_at 58 rfl ?_)
          unfold Stop
          refine op_append rfl _ _ _ rfl 133 _ 2 16 Try.underlying127 infoTn rfl (by omega) (hsv.low.alloc _) rfl ⟨wr.heap.size, 0, none⟩ 1 1 [.int .i64 0, .int .i64 (-1)] rfl rfl (fun j u hu => by rw [hX.cellAdd 0 j, Nat.zero_add]; exact hu) (by intro u hu; simp at hu; rcases hu with rfl | rfl <;> rfl) (by simp only [maxLen]; omega) (by omega) ?_
          intro v3 w3 hf3 hs3
          obtain ⟨A3, c3, rfl⟩ := hs3.form
          have hzr := hfr.size
          have hf03 := (hfr.alloc (.cells #[.int .i64 0, .int .i64 (-1)] 133)).then hf3 (fun i h hi => by have := h.1; omega)
          have hC3 := (hCj.alloc (.cells #[.int .i64 0, .int .i64 (-1)] 133)).frm hf3 (fun h => by have := h.1; omega)
          have HR : Hid (L2 w7 bC mn at_ (.slice A0 ns cA0) (.int .i64 ((j + 1 : Nat) : Int)) (w3.setCell ⟨bC, 3, none⟩ (.slice A3 (j + 1) c3))) := Lib.hid ⟨j + 1, _, rfl, by omega, hf03.set bC 3 _ (fun _ => rfl), hC3.setSame 3 _, by
            rw [List.replicate_succ', flatN_snoc]
            exact (hs3.set bC 3 (.slice A3 (j + 1) c3) (by rintro (h | h); have := h.1; omega; omega)).mono (by rintro j (h | h) _; exact h.1; show w7.heap.size ≤ j; omega)⟩
          clear x0 x1 x2 x3 y0 y1 y2 y3 lx hs3 hf3 hX hsv hCj
          obtain ⟨x0, x1, x2, x3, y0, y1, y2, y3, lx⟩ := blk4 hC3
          have hwk : IntKind.i64.wrap ((j : Int) + 1) = ((j + 1 : Nat) : Int) := by rw [IntWalk.i64_in _ (by omega)]; omega
          go_wp2_with fail
          go_roundw
          case measure => simp [intOf] <;> omega
          case rel => exact HR.out
        · obtain rfl : j = mn := by omega
          have hbc := HBC.out
          have hf78 := HFR.out.then hfr (fun i h hi => by omega)
          have hM8 := HM5.out.frm hf78
          have hz5 := HFR.out.size
          have hsP : Sl wr (fun j => w5.heap.size ≤ j ∧ j ≠ bC) 131 3 (.slice A0 ns cA0) ns (flatP (List.replicate ns ⟨-1, -1, -1⟩)) := HSV.out.frm hfr (fun k h e => h.2 e)
          have hM8b := hM8.more (G := fun q => (D q ∧ q < bm) ∨ w5.heap.size ≤ q) (fun q h _ => .inl h) (fun q h he => by rcases h with h | h; exact hM8.apart q h he; have := HE5.out; rcases he with he | he | he <;> omega)
          have hC8 : CfR wr (fun q => (D q ∧ q < bm) ∨ w5.heap.size ≤ q) (List.replicate ns ⟨-1, -1, -1⟩) (List.replicate j ⟨0, -1⟩) A0 ns cA0 B0 j cB0 := ⟨hsP.rd.mono (fun q h _ => .inr h.1), hsv.rd.mono (fun q h _ => .inr (by omega))⟩
          have hL8 := (HL5.out.quiet hf78).more (G := fun q => (D q ∧ q < bm) ∨ w5.heap.size ≤ q) (fun q h => .inl h)
          have hst8 : startS m at_ = ⟨0, at_, List.replicate ns ⟨-1, -1, -1⟩, List.replicate j ⟨0, -1⟩⟩ := by
            unfold startS
            rw [List.map_const', List.map_const', HSLN.out.2, HCS.out]
            rfl
          have hM8d := hM8b.frm ((Frm.refl _ wr).drew)
          have hC8d := hC8.frm ((Frm.refl _ wr).drew) (fun _ _ h => h)
          have HPU := Lib.hid (pushM 136 (.agg #[.int .i64 0, .int .i64 at_, .slice A0 ns cA0, .slice B0 j cB0]) (.look (startS m at_)) hM8d ⟨A0, ns, cA0, B0, j, cB0, by rw [hst8]; rfl, by rw [hst8]; exact hC8d⟩ (by simp))
          have b9 := hM8.obj.cell 9
          simp only [cellsB, List.getElem?_cons_zero, List.getElem?_cons_succ] at b9
          have lb := hM8.obj.lt
          have HL8 := Lib.hid (hL8.quiet ((Frm.refl _ wr).drew))
          have HST := Lib.hid hst8
          have HSZ := Lib.hid hz5
          clear hM8d hC8d hL8 hM8b hC8 hsP hsv hst8 hf78 hM8 hfr hCj hz5 hbc
          go_upto_region 13 with fail
          go_cut [] from 61 to 68 (fun wx => ∃ E9 D9, MM wx E9 D9 b gp bm ⟨PA, pn, pcap, SA, k, sc, MA, j, mc, LA, ln, lc, gr, co⟩ m line [.look (startS m at_)] [] steps kept ∧ Lk w (fun k => k = b) D wx E9 D9)
          case first =>
            go_wp2_with fail
            go_region_with (go_at_call 53; refine HPU.out.mono ?_; rintro e w9 ⟨rfl, hM9, hf9⟩)
            all_goals
              have hL9 := HL8.out.push hf9 (fun k h => h.1)
              clear x0 x1 x2 x3 y0 y1 y2 y3 lx b9 lb hf9
              go_wp2_with fail
              go_meet
              exact ⟨_, _, hM9, hL9⟩
          case rest =>
            obtain ⟨E9, D9, hM9, hL9⟩ := hcut
            clear x0 x1 x2 x3 y0 y1 y2 y3 lx b9 lb hCr hbw hsr hmr HPU HSZ HL8 HSV HFR HL5 HM5
            have hri : RI w D b gp bm ⟨PA, pn, pcap, SA, k, sc, MA, j, mc, LA, ln, lc, gr, co⟩ m line steps f r f (.int .i64 0) (.bool false) wc := by
              refine ⟨_, _, E9, D9, hr, hM9, hL9, ?_, ?_, ?_, ?_, ?_, hkp, rfl, rfl⟩
              · intro c hc
                rw [List.mem_singleton] at hc
                injection hc with hc
                subst hc
                rw [HST.out]
                exact ⟨hin, hat, by rw [List.length_replicate, HCS.out], by rw [List.length_replicate, HSLN.out.2], fun p hp => by rw [List.eq_of_mem_replicate hp]; simp only; omega, fun t ht => by rw [List.eq_of_mem_replicate ht]; simp only; omega⟩
              · intro k hk; simp at hk
              · simp only [List.length_singleton]; omega
              · simp only [List.length_nil]; omega
              · exact Nat.le_refl _
            have HRI := Lib.hid hri
            clear hri hM9 hL9 hr HST HCS HSLN
            go_wp2_with fail
            go_loopg [6, 7] f (fun g ev ov wr => RI w D b gp bm ⟨PA, pn, pcap, SA, k, sc, MA, j, mc, LA, ln, lc, gr, co⟩ m line steps f r g ev ov wr)
            case atStart => exact HRI.out
            case round =>
              clear HRI
              obtain ⟨pile, ⟨seen, stp, kp, best⟩, E', D', hrun, hM, hL, hcw, hkl, q1, q2, q3, q4, rfl, rfl⟩ := hrel
              simp only at hM q2 q3 q4 ⊢
              have b9 := hM.obj.cell 9
              simp only [cellsB, List.getElem?_cons_zero, List.getElem?_cons_succ] at b9
              have lb := hM.obj.lt
              cases pile with
              | nil =>
                have hrr : some (⟨seen, stp, kp, best⟩ : Rn) = some r := by rw [← hrun]; cases gk <;> rfl
                injection hrr with hrr
                subst hrr
                have HP0 := Lib.hid (popM0 hM)
                have HM := Lib.hid hM
                have HLF := Lib.hid hL.f
                clear hM hL hrun hcw hkl
                go_wp2_with fail
                refine HP0.out.mono ?_
                rintro e w' ⟨rfl, rfl⟩
                go_wp2_with fail
                refine bodyPost_ret (results_two rfl (RV.tmp rfl) (RV.tmp rfl)) rfl ?_
                exact ⟨rfl, ⟨_, _, HM.out.obj⟩, HLF.out⟩
              | cons fr pile =>
                cases gk with
                | zero => simp [runS] at hrun
                | succ g' =>
                simp only [List.length_cons] at q1
                obtain ⟨E1, D1, hMl, hLl, hEl⟩ : ∃ E1 D1, MM wr E1 D1 b gp bm ⟨PA, pn, pcap, SA, k, sc, MA, j, mc, LA, ln, lc, gr, co⟩ m line (fr :: pile) seen stp kp ∧ Lk w (fun k => k = b) D wr E1 D1 ∧ ∀ q, E1 q → q < wr.heap.size := ⟨_, _, hM.low, hL.low, fun q h => h.2⟩
                obtain ⟨v, hv, hpop⟩ := popM fr hMl (by omega)
                cases fr with
                | leave K =>
                  have hve : v = .iface 140 (.agg #[kV K]) := hv
                  subst hve
                  have hK := hkl K (List.mem_cons_self ..)
                  obtain ⟨SB, hSB⟩ : ∃ SB : ByteArray, (⟨K.toArray⟩ : ByteArray) = SB := ⟨_, rfl⟩
                  unfold kV at hpop
                  rw [hSB] at hpop
                  have HPOP := Lib.hid hpop
                  have HSB := Lib.hid hSB
                  have hr2 : runS m line.toList g' pile ⟨seen.erase K, stp, kp, best⟩ = some r := by rw [← hrun]; rfl
                  have HRN := Lib.hid (⟨hr2, fun c hc => hcw c (List.mem_cons_of_mem _ hc), fun k hk => hkl k (List.mem_cons_of_mem _ hk)⟩ : _ ∧ (∀ c, .look c ∈ pile → CW m line.size c) ∧ (∀ k, .leave k ∈ pile → k.length ≤ 100000))
                  have HLL := Lib.hid hLl
                  clear hpop hSB hr2 hrun hcw hkl hM hL hMl hLl hv
                  go_wp2_with fail
                  refine HPOP.out.mono ?_
                  rintro e w1 ⟨rfl, hM1, hf1⟩
                  have hL1 := HLL.out.eff hf1 (fun k h => h.1)
                  clear b9 lb hf1
                  have hF2 := Blk.new w1 [.string SB] 140
                  have hfq : Frm (fun _ => False) w1 (w1.alloc (.cells #[.string SB] 140)) := (Frm.refl _ _).alloc _
                  have hM2 := hM1.frm hfq
                  have hL2 := hL1.quiet hfq
                  have hM2d := hM2.frm ((Frm.refl _ (w1.alloc (.cells #[.string SB] 140))).drew)
                  obtain ⟨w3, hdel, hsm3, hf3⟩ := hM2d.map.dropAll K hK
                  have hM3 := hM2d.setMap hf3 hsm3
                  have hL3 := (hL2.quiet ((Frm.refl _ (w1.alloc (.cells #[.string SB] 140))).drew)).eff hf3 (fun k h => h ▸ hM2d.mE)
                  unfold kV at hdel
                  rw [HSB.out] at hdel
                  have HR : Hid (RI w D b gp bm ⟨PA, pn, pcap, SA, k, sc, MA, j, mc, LA, ln, lc, gr, co⟩ m line steps f r g' (.int .i64 (best.getD 0 : Nat)) (.bool best.isSome) w3) := Lib.hid
                    ⟨pile, ⟨seen.erase K, stp, kp, best⟩, _, _, HRN.out.1, hM3, hL3, HRN.out.2.1, HRN.out.2.2, by omega, by have := List.length_erase_le (a := K) (l := seen); simp only; omega, by simp only; omega, q4, rfl, rfl⟩
                  have b8 := hM2.obj.cell 8
                  simp only [cellsB, List.getElem?_cons_zero, List.getElem?_cons_succ] at b8
                  have lb := hM2.obj.lt
                  have fz := hF2.cell 0
                  simp only [List.getElem?_cons_zero] at fz
                  have lf := hF2.lt
                  clear hM1 hL1 hM2 hL2 hM2d hM3 hL3 hsm3 hf3 hfq hF2
                  go_upto_region 20 with fail
                  generalize w1.alloc (.cells #[.string SB] 140) = w2 at *
                  obtain ⟨bF, hbF⟩ : ∃ bF, w1.heap.size = bF := ⟨_, rfl⟩
                  simp only [hbF] at fz lf ⊢
                  clear hbF
                  go_wp2_with fail
                  go_region
                  all_goals
                    go_wp2_with fail
                    go_roundg g'
                    case measure => omega
                    case rel => exact HR.out
                | look c =>
                  obtain ⟨A, n, cA, B, kk, d, rfl, hc⟩ := hv
                  have hcwc := hcw c (List.mem_cons_self ..)
                  obtain ⟨i, hi⟩ : ∃ i, m.ins[c.pc]? = some i := ⟨_, List.getElem?_eq_getElem hcwc.pc⟩
                  have HCW := Lib.hid (⟨hcwc, hi⟩ : _ ∧ _)
                  have HPOP := Lib.hid hpop
                  have HLL := Lib.hid hLl
                  have HRUN := Lib.hid (⟨hrun, fun c hc => hcw c (List.mem_cons_of_mem _ hc), fun k hk => hkl k (List.mem_cons_of_mem _ hk)⟩ : _ ∧ (∀ c, .look c ∈ pile → CW m line.size c) ∧ (∀ k, .leave k ∈ pile → k.length ≤ 100000))
                  have HC := Lib.hid (⟨hc, hMl.apart⟩ : _ ∧ _)
                  have HEL := Lib.hid hEl
                  clear hpop hrun hcw hkl hM hL hMl hLl hc hi hcwc hEl
                  go_wp2_with fail
                  refine HPOP.out.mono ?_
                  rintro e w1 ⟨rfl, hM1, hf1⟩
                  clear b9 lb
                  have hL1 := HLL.out.eff hf1 (fun k h => h.1)
                  have hC1 := HC.out.1.frm hf1 (fun q h e => HC.out.2 q h e.1)
                  have hz1 := hf1.size
                  have hF := Blk.new w1 [.int .i64 c.pc, .int .i64 c.at_, .slice A n cA, .slice B kk d] 136
                  have hfq : Frm (fun _ => False) w1 (w1.alloc (.cells #[.int .i64 c.pc, .int .i64 c.at_, .slice A n cA, .slice B kk d] 136)) := (Frm.refl _ _).alloc _
                  have hM2 := hM1.frm hfq
                  have hC2 := hC1.frm hfq (fun _ _ h => h)
                  have hL2 := hL1.quiet hfq
                  obtain ⟨bF, hbF⟩ : ∃ bF, w1.heap.size = bF := ⟨_, rfl⟩
                  rw [hbF] at hF
                  have hbFb : bF ≠ b := by have := hM1.obj.lt; omega
                  have HBF : Hid (¬ E1 bF) := Lib.hid fun h => by have := HEL.out _ h; omega
                  have b11 := hM2.obj.cell 11
                  have b11f := hM2.obj.frozen 11
                  simp only [cellsB, List.getElem?_cons_zero, List.getElem?_cons_succ] at b11
                  have lb := hM2.obj.lt
                  obtain ⟨st2, hst2⟩ : ∃ st2, stp + 1 = st2 := ⟨_, rfl⟩
                  have hws : IntKind.i64.wrap ((stp : Int) + 1) = (st2 : Int) := by rw [IntWalk.i64_in _ (by omega)]; omega
                  have HST2 := Lib.hid hst2
                  clear hst2
                  have hB3 := hM2.obj.setSame 11 (.int .i64 (st2 : Int))
                  simp only [cellsB, List.set_cons_succ, List.set_cons_zero] at hB3
                  have hf23 : Frm (fun k => k = b) (w1.alloc (.cells #[.int .i64 c.pc, .int .i64 c.at_, .slice A n cA, .slice B kk d] 136)) ((w1.alloc (.cells #[.int .i64 c.pc, .int .i64 c.at_, .slice A n cA, .slice B kk d] 136)).setCell ⟨b, 11, none⟩ (.int .i64 (st2 : Int))) := (Frm.refl (fun k => k = b) _).set b 11 _ (fun _ => rfl)
                  have hM3 := hM2.setObj hf23 hB3
                  have hC3 := hC2.frm hf23 (fun q h e => hM2.apart q h (e ▸ hM2.bE))
                  have hL3 := hL2.eff hf23 (fun k h => h ▸ hM2.bE)
                  have hF3 := hF.setOther b 11 (.int .i64 (st2 : Int)) hbFb
                  clear hM1 hM2 hC1 hC2 hL1 hL2 hf1 hfq hf23 hB3 hF
                  go_upto_region 24 with fail
                  clear b11 b11f lb hws
                  try simp only [hbF]
                  clear hbF
                  generalize (w1.alloc (.cells #[.int .i64 c.pc, .int .i64 c.at_, .slice A n cA, .slice B kk d] 136)).setCell ⟨b, 11, none⟩ (.int .i64 (st2 : Int)) = w3 at *
                  have fa0 := hF3.cell 0
                  have fa1 := hF3.cell 1
                  have fa2 := hF3.cell 2
                  have fa3 := hF3.cell 3
                  simp only [List.getElem?_cons_zero, List.getElem?_cons_succ] at fa0 fa1 fa2 fa3
                  have lf := hF3.lt
                  have HFR := Lib.hid (freshM c hW HCW.out.1 hM3 hC3 (by omega) hls (by omega) (by omega))
                  have HM3 := Lib.hid (⟨hM3, hC3, hL3⟩ : _ ∧ _ ∧ _)
                  clear hM3 hC3 hL3
                  go_wp2_with fail
                  refine HFR.out.mono ?_
                  rintro e w4 hp
                  unfold FreshPost at hp
                  clear HFR fa0 fa1 fa2 fa3 lf
                  by_cases hin2 : keyS m c ∈ seen
                  · rw [if_pos hin2] at hp
                    obtain ⟨rfl, E4, D4, hM4, hE4, hD4, hf4⟩ := hp
                    have hL4 := HM3.out.2.2.mxl hE4 hD4 hf4
                    have hr2 := HRUN.out.1
                    rw [runS, if_pos hin2] at hr2
                    simp only [HST2.out] at hr2
                    have HR : Hid (RI w D b gp bm ⟨PA, pn, pcap, SA, k, sc, MA, j, mc, LA, ln, lc, gr, co⟩ m line steps f r g' (.int .i64 (best.getD 0 : Nat)) (.bool best.isSome) w4) := Lib.hid
                      ⟨pile, ⟨seen, st2, kp, best⟩, E4, D4, hr2, hM4, hL4, HRUN.out.2.1, HRUN.out.2.2, by omega, by have := HST2.out; simp only; omega, by have := HST2.out; simp only; omega, q4, rfl, rfl⟩
                    clear hM4 hE4 hD4 hf4 hL4 hr2 hF3
                    go_wp2_with fail
                    go_roundg g'
                    case measure => omega
                    case rel => exact HR.out
                  · rw [if_neg hin2] at hp
                    have hr2 := HRUN.out.1
                    rw [runS, if_neg hin2] at hr2
                    simp only [HST2.out] at hr2
                    obtain ⟨rfl, E4, D4, hM4, hE4, hD4, hf4⟩ := hp
                    have hC4 := ((HM3.out.2.1.mono (G := fun q => D1 q ∧ q < w3.heap.size) (fun q h l => ⟨h, l⟩)).frm hf4 (fun q h e => HM3.out.1.apart q h.1 e)).mono (fun q h _ => hD4 q h.1 h.2)
                    have hL4 := HM3.out.2.2.mxl hE4 hD4 hf4
                    have hF4 := hF3.frm hf4 HBF.out
                    have hkl3 := keyS_len m c
                    have hkb : (keyS m c).length ≤ 100000 := by have := HCW.out.1.np; have := HCW.out.1.nt; have := hW.ns; have := hW.nm; omega
                    have hpl4 : (∀ c', .look c' ∈ (if m.plain then Fr.leave (keyS m c) :: pile else pile) → Fr.look c' ∈ pile) ∧ (∀ k', .leave k' ∈ (if m.plain then Fr.leave (keyS m c) :: pile else pile) → k' = keyS m c ∨ Fr.leave k' ∈ pile) ∧ (if m.plain then Fr.leave (keyS m c) :: pile else pile).length ≤ pile.length + 1 := by
                      split
                      · refine ⟨fun c' h => ?_, fun k' h => ?_, by simp⟩
                        · rcases List.mem_cons.1 h with h | h
                          · cases h
                          · exact h
                        · rcases List.mem_cons.1 h with h | h
                          · injection h with h; exact .inl h
                          · exact .inr h
                      · exact ⟨fun c' h => h, fun k' h => .inr h, by omega⟩
                    have hkp4 : (if m.plain then kp else max kp (seen.length + 1)) ≤ 2305843009213693952 := by split <;> omega
                    generalize (if m.plain then Fr.leave (keyS m c) :: pile else pile) = pile4 at *
                    generalize (if m.plain then kp else max kp (seen.length + 1)) = kp4 at *
                    have hcon := onS_len m line.toList c
                    have HPB : Hid (pile4.length ≤ pile.length + 1) := Lib.hid hpl4.2.2
                    have HKP := Lib.hid hkp4
                    have hlsz : line.toList.length = line.size := by rw [ByteArray.toList_eq]; simp
                    have HRN : Hid (runS m line.toList g' ((onS m line.toList c).reverse.map .look ++ pile4) ⟨keyS m c :: seen, st2, kp4, hitS m c best⟩ = some r ∧ (∀ c', .look c' ∈ (onS m line.toList c).reverse.map Fr.look ++ pile4 → CW m line.size c') ∧ (∀ k', .leave k' ∈ (onS m line.toList c).reverse.map Fr.look ++ pile4 → k'.length ≤ 100000) ∧ ((onS m line.toList c).reverse.map Fr.look ++ pile4).length + 3 * g' ≤ 3 * f + 1) := Lib.hid (by
                      refine ⟨hr2, fun c' h => ?_, fun k' h => ?_, ?_⟩
                      · rcases List.mem_append.1 h with h | h
                        · obtain ⟨c2, h1, h2⟩ := List.mem_map.1 h
                          injection h2 with h2
                          subst h2
                          have := on_CW (line := line.toList) hW (by rw [hlsz]; exact HCW.out.1) c2 (List.mem_reverse.1 h1)
                          rwa [hlsz] at this
                        · exact HRUN.out.2.1 c' (hpl4.1 c' h)
                      · rcases List.mem_append.1 h with h | h
                        · obtain ⟨c2, h1, h2⟩ := List.mem_map.1 h
                          cases h2
                        · rcases hpl4.2.1 k' h with rfl | h
                          · exact hkb
                          · exact HRUN.out.2.2 k' h
                      · rw [List.length_append, List.length_map, List.length_reverse]; omega)
                    have hPI := hM4.sta.ins
                    simp only at hPI
                    obtain ⟨pb, po, rfl, hpb, hpi⟩ := hPI.ins c.pc i HCW.out.2
                    have i0 := hpi 0 _ rfl
                    rw [Nat.add_zero] at i0
                    have lpb := hpb
                    have hcpn : c.pc < pn := by
                      have h1 := hPI.len
                      rw [flatI_len] at h1
                      have h2 := HCW.out.1.pc
                      omega
                    have b0 := hM4.obj.cell 0
                    simp only [cellsB, List.getElem?_cons_zero, List.getElem?_cons_succ] at b0
                    have lb := hM4.obj.lt
                    have fa0 := hF4.cell 0
                    have fa1 := hF4.cell 1
                    have fa2 := hF4.cell 2
                    have fa3 := hF4.cell 3
                    simp only [List.getElem?_cons_zero, List.getElem?_cons_succ] at fa0 fa1 fa2 fa3
                    have lf := hF4.lt
                    have HM4 := Lib.hid (⟨hM4, hC4, hL4⟩ : _ ∧ _ ∧ _)
                    have HF4 := Lib.hid hF4
                    have hih : isHit m c = (i.op == 11) := by unfold isHit; rw [HCW.out.2]
                    have HIH := Lib.hid hih
                    clear hM4 hC4 hL4 hF4 hE4 hD4 hf4 hPI hr2 hpl4 hkp4 hcon hkl3 hkb hF3 hpi hpb hih hlsz hin2 HM3 HRUN
                    by_cases h11 : i.op = 11
                    · have hq : (i.op == (11 : Int)) = true := by simpa using h11
                      have HH1 : Hid (isHit m c = true) := Lib.hid (HIH.out.trans hq)
                      cases best with
                      | none =>
                        have HHS := Lib.hid (show hitS m c none = some c.at_ by unfold hitS; rw [if_pos HH1.out])
                        go_wp2_with fail
                        go_quiet (fail)
                        have hM5 := HM4.out.1.frm ((Frm.refl _ w4).drewN nq)
                        have hC5 := HM4.out.2.1.frm ((Frm.refl _ w4).drewN nq) (fun _ _ h => h)
                        have hL5 := HM4.out.2.2.quiet ((Frm.refl _ w4).drewN nq)
                        have hF5 := (HF4.out).drewN nq
                        have HON := Lib.hid (onM c hW HCW.out.1 hM5 hC5 (by have := HPB.out; omega) hls)
                        clear hM5 hC5 fa0 fa1 fa2 fa3 lf b0 lb i0 lpb
                        have HL5 := Lib.hid hL5
                        clear hL5
                        generalize w4.drewN nq = w5 at *
                        have fa0 := hF5.cell 0
                        have fa1 := hF5.cell 1
                        have fa2 := hF5.cell 2
                        have fa3 := hF5.cell 3
                        simp only [List.getElem?_cons_zero, List.getElem?_cons_succ] at fa0 fa1 fa2 fa3
                        have lf := hF5.lt
                        go_wp2_with fail
                        refine HON.out.mono ?_
                        rintro e w6 ⟨rfl, hmx⟩
                        obtain ⟨E6, D6, hM6, hE6, hD6, hf6⟩ := hmx
                        have hL6 := HL5.out.mxl hE6 hD6 hf6
                        have HR : Hid (RI w D b gp bm ⟨some ⟨pb, po, none⟩, pn, pcap, SA, k, sc, MA, j, mc, LA, ln, lc, gr, co⟩ m line steps f r g' (.int .i64 ((hitS m c none).getD 0 : Nat)) (.bool (hitS m c none).isSome) w6) := Lib.hid
                          ⟨_, ⟨keyS m c :: seen, st2, kp4, hitS m c none⟩, E6, D6, HRN.out.1, hM6, hL6, HRN.out.2.1, HRN.out.2.2.1, HRN.out.2.2.2, by simp only [List.length_cons]; omega, by have := HST2.out; simp only; omega, HKP.out, rfl, rfl⟩
                        rw [HHS.out] at HR
                        clear hM6 hL6 hE6 hD6 hf6 fa0 fa1 fa2 fa3 lf hF5
                        go_wp2_with fail
                        go_roundg g'
                        case measure => omega
                        case rel => exact HR.out
                      | some e =>
                        by_cases hea : e < c.at_
                        · have d4 : decide ((e : Int) < (c.at_ : Int)) = true := decide_eq_true (by omega)
                          have HHS := Lib.hid (show hitS m c (some e) = some c.at_ by unfold hitS; rw [if_pos HH1.out]; simp [hea])
                          go_wp2_with fail
                          go_quiet (fail)
                          have hM5 := HM4.out.1.frm ((Frm.refl _ w4).drewN nq)
                          have hC5 := HM4.out.2.1.frm ((Frm.refl _ w4).drewN nq) (fun _ _ h => h)
                          have hL5 := HM4.out.2.2.quiet ((Frm.refl _ w4).drewN nq)
                          have hF5 := (HF4.out).drewN nq
                          have HON := Lib.hid (onM c hW HCW.out.1 hM5 hC5 (by have := HPB.out; omega) hls)
                          clear hM5 hC5 fa0 fa1 fa2 fa3 lf b0 lb i0 lpb
                          have HL5 := Lib.hid hL5
                          clear hL5
                          generalize w4.drewN nq = w5 at *
                          have fa0 := hF5.cell 0
                          have fa1 := hF5.cell 1
                          have fa2 := hF5.cell 2
                          have fa3 := hF5.cell 3
                          simp only [List.getElem?_cons_zero, List.getElem?_cons_succ] at fa0 fa1 fa2 fa3
                          have lf := hF5.lt
                          go_wp2_with fail
                          refine HON.out.mono ?_
                          rintro e w6 ⟨rfl, hmx⟩
                          obtain ⟨E6, D6, hM6, hE6, hD6, hf6⟩ := hmx
                          have hL6 := HL5.out.mxl hE6 hD6 hf6
                          have HR : Hid (RI w D b gp bm ⟨some ⟨pb, po, none⟩, pn, pcap, SA, k, sc, MA, j, mc, LA, ln, lc, gr, co⟩ m line steps f r g' (.int .i64 ((hitS m c (some e)).getD 0 : Nat)) (.bool (hitS m c (some e)).isSome) w6) := Lib.hid
                            ⟨_, ⟨keyS m c :: seen, st2, kp4, hitS m c (some e)⟩, E6, D6, HRN.out.1, hM6, hL6, HRN.out.2.1, HRN.out.2.2.1, HRN.out.2.2.2, by simp only [List.length_cons]; omega, by have := HST2.out; simp only; omega, HKP.out, rfl, rfl⟩
                          rw [HHS.out] at HR
                          clear hM6 hL6 hE6 hD6 hf6 fa0 fa1 fa2 fa3 lf hF5
                          go_wp2_with fail
                          go_roundg g'
                          case measure => omega
                          case rel => exact HR.out
                        · have d4 : decide ((e : Int) < (c.at_ : Int)) = false := decide_eq_false (by omega)
                          have HHS := Lib.hid (show hitS m c (some e) = some e by unfold hitS; rw [if_pos HH1.out]; simp [hea])
                          go_wp2_with fail
                          go_quiet (fail)
                          have hM5 := HM4.out.1.frm ((Frm.refl _ w4).drewN nq)
                          have hC5 := HM4.out.2.1.frm ((Frm.refl _ w4).drewN nq) (fun _ _ h => h)
                          have hL5 := HM4.out.2.2.quiet ((Frm.refl _ w4).drewN nq)
                          have hF5 := (HF4.out).drewN nq
                          have HON := Lib.hid (onM c hW HCW.out.1 hM5 hC5 (by have := HPB.out; omega) hls)
                          clear hM5 hC5 fa0 fa1 fa2 fa3 lf b0 lb i0 lpb
                          have HL5 := Lib.hid hL5
                          clear hL5
                          generalize w4.drewN nq = w5 at *
                          have fa0 := hF5.cell 0
                          have fa1 := hF5.cell 1
                          have fa2 := hF5.cell 2
                          have fa3 := hF5.cell 3
                          simp only [List.getElem?_cons_zero, List.getElem?_cons_succ] at fa0 fa1 fa2 fa3
                          have lf := hF5.lt
                          go_wp2_with fail
                          refine HON.out.mono ?_
                          rintro e w6 ⟨rfl, hmx⟩
                          obtain ⟨E6, D6, hM6, hE6, hD6, hf6⟩ := hmx
                          have hL6 := HL5.out.mxl hE6 hD6 hf6
                          have HR : Hid (RI w D b gp bm ⟨some ⟨pb, po, none⟩, pn, pcap, SA, k, sc, MA, j, mc, LA, ln, lc, gr, co⟩ m line steps f r g' (.int .i64 ((hitS m c (some e)).getD 0 : Nat)) (.bool (hitS m c (some e)).isSome) w6) := Lib.hid
                            ⟨_, ⟨keyS m c :: seen, st2, kp4, hitS m c (some e)⟩, E6, D6, HRN.out.1, hM6, hL6, HRN.out.2.1, HRN.out.2.2.1, HRN.out.2.2.2, by simp only [List.length_cons]; omega, by have := HST2.out; simp only; omega, HKP.out, rfl, rfl⟩
                          rw [HHS.out] at HR
                          clear hM6 hL6 hE6 hD6 hf6 fa0 fa1 fa2 fa3 lf hF5
                          go_wp2_with fail
                          go_roundg g'
                          case measure => omega
                          case rel => exact HR.out
                    · have hq : (i.op == (11 : Int)) = false := by simpa using h11
                      have HH1 : Hid (isHit m c = false) := Lib.hid (HIH.out.trans hq)
                      have HHS := Lib.hid (show hitS m c best = best by unfold hitS; rw [if_neg (by rw [HH1.out]; simp)])
                      go_wp2_with fail
                      go_quiet (fail)
                      have hM5 := HM4.out.1.frm ((Frm.refl _ w4).drewN nq)
                      have hC5 := HM4.out.2.1.frm ((Frm.refl _ w4).drewN nq) (fun _ _ h => h)
                      have hL5 := HM4.out.2.2.quiet ((Frm.refl _ w4).drewN nq)
                      have hF5 := (HF4.out).drewN nq
                      have HON := Lib.hid (onM c hW HCW.out.1 hM5 hC5 (by have := HPB.out; omega) hls)
                      clear hM5 hC5 fa0 fa1 fa2 fa3 lf b0 lb i0 lpb
                      have HL5 := Lib.hid hL5
                      clear hL5
                      generalize w4.drewN nq = w5 at *
                      have fa0 := hF5.cell 0
                      have fa1 := hF5.cell 1
                      have fa2 := hF5.cell 2
                      have fa3 := hF5.cell 3
                      simp only [List.getElem?_cons_zero, List.getElem?_cons_succ] at fa0 fa1 fa2 fa3
                      have lf := hF5.lt
                      go_wp2_with fail
                      refine HON.out.mono ?_
                      rintro e w6 ⟨rfl, hmx⟩
                      obtain ⟨E6, D6, hM6, hE6, hD6, hf6⟩ := hmx
                      have hL6 := HL5.out.mxl hE6 hD6 hf6
                      have HR : Hid (RI w D b gp bm ⟨some ⟨pb, po, none⟩, pn, pcap, SA, k, sc, MA, j, mc, LA, ln, lc, gr, co⟩ m line steps f r g' (.int .i64 ((hitS m c best).getD 0 : Nat)) (.bool (hitS m c best).isSome) w6) := Lib.hid
                        ⟨_, ⟨keyS m c :: seen, st2, kp4, hitS m c best⟩, E6, D6, HRN.out.1, hM6, hL6, HRN.out.2.1, HRN.out.2.2.1, HRN.out.2.2.2, by simp only [List.length_cons]; omega, by have := HST2.out; simp only; omega, HKP.out, rfl, rfl⟩
                      rw [HHS.out] at HR
                      clear hM6 hL6 hE6 hD6 hf6 fa0 fa1 fa2 fa3 lf hF5
                      go_wp2_with fail
                      go_roundg g'
                      case measure => omega
                      case rel => exact HR.out
end Go.Proofs.Ytoadmpochaeohaa
end
