/-
  Reference 14: where a configuration leads: operations 6, 9, 10.
-/
import Derived.Test.YtoadmpochaeohaaPa23
import Derived.StillTailTactics
section
set_option linter.unusedVariables false
set_option linter.unusedSimpArgs false
set_option maxRecDepth 100000
namespace Go.Proofs.Ytoadmpochaeohaa
open Go.RowKit

set_option maxHeartbeats 8000000 in
theorem next6 (bX : Nat) (A : Option Addr) (n cp gr co : Nat) (fo : Bool) (ins : List Ins) (line : ByteArray) (bR : Nat) (sv mv : Value) (s : CA) (c : RC) (i : Ins) (E D : Nat → Prop) (w : World) (hP : PlM w E bX A n cp gr co fo ins line bR sv mv) (hC : CRd w D s gr co c) (hR : RW ins line.size c) (hi : ins[c.pc]? = some i) (f : FineI ins.length gr co c.pc i) (hgr : gr ≤ 30) (hco : co ≤ 40) (hni : ins.length ≤ 40000) (hN : line.size ≤ 1000000) (hop : i.op = 6) :
    Calls Try.prog 50 #[.pointer (some ⟨bX, 0, none⟩), .agg (s.cells gr co c.pc c.at_).toArray] w fun e w' => ∃ v, e = .returned v ∧ CfL w' (fun q => w.heap.size ≤ q) (fun q => D q ∨ w.heap.size ≤ q) gr co v (nextR ins fo line.toList (refsN ins gr) c) ∧ Frm (fun _ => False) w w' := by
  obtain ⟨kn, hkn0⟩ := Int.eq_ofNat_of_zero_le (f.g (by simp [hop])).1
  have hkn : kn < gr := by have := (f.g (by simp [hop])).2; omega
  obtain ⟨cs, hcs⟩ : ∃ cs, nextR ins fo line.toList (refsN ins gr) c = cs := ⟨_, rfl⟩
  rw [hcs]
  have hcs2 := hcs
  unfold nextR at hcs2
  rw [hi] at hcs2
  simp only [hop] at hcs2
  have hlb : line.toList.length = line.size := by rw [ByteArray.toList_eq]; simp
  have hcl := hC.len
  obtain ⟨a1, a2, a3, a4, a5, c1, c2, c3, c4, c5⟩ := s
  obtain ⟨pc, at_, began, frm, til, turns, last⟩ := c
  obtain ⟨iop, ix, iy, i_n, imn, imx, is0, is1, is2, is3⟩ := i
  simp only [CA.cells] at *
  subst hop hkn0
  have HCS := Lib.hid (⟨hcs2, hlb⟩ : _ ∧ _)
  have HRW := Lib.hid hR
  have HFI := Lib.hid f
  have HCL := Lib.hid hcl
  have hatN : at_ ≤ line.size := hR.at_
  have hpcn : pc < n := by have := hR.pc; have h2 := hP.rd.len; rw [flatI_len] at h2; simp only at this; omega
  have hpcb : pc ≤ 40000 := by have := hR.pc; simp only at this; omega
  obtain ⟨pc1, hpc1⟩ : ∃ p, pc + 1 = p := ⟨_, rfl⟩
  have hwp : IntKind.i64.wrap ((pc : Int) + 1) = (pc1 : Int) := by rw [IntWalk.i64_in _ (by omega)]; omega
  have HPC := Lib.hid hpc1
  clear hcs hcs2 hlb hR f hcl hpc1
  have hX := Blk.new w [.int .i64 pc, .int .i64 at_, .slice a1 gr c1, .slice a2 gr c2, .slice a3 gr c3, .slice a4 co c4, .slice a5 co c5] 114
  have hf0 : Frm (fun _ => False) w (w.alloc (.cells #[.int .i64 pc, .int .i64 at_, .slice a1 gr c1, .slice a2 gr c2, .slice a3 gr c3, .slice a4 co c4, .slice a5 co c5] 114)) := (Frm.refl _ _).alloc _
  have hC1 := hC.low.frm hf0 (fun _ _ h => h)
  have hP1 := hP.low.frm hf0 (fun h => h) (fun _ _ h => h) (fun h => h)
  clear hP hC
  go_enter Try.func50, Try.ntmps50
  go_upto_region 1 with fail
  generalize w.alloc (.cells #[.int .i64 pc, .int .i64 at_, .slice a1 gr c1, .slice a2 gr c2, .slice a3 gr c3, .slice a4 co c4, .slice a5 co c5] 114) = w1 at *
  obtain ⟨b3, hb3⟩ : ∃ b, w.heap.size = b := ⟨_, rfl⟩
  simp only [hb3] at hX hC1 hP1 ⊢
  have HB := Lib.hid hb3
  clear hb3
  obtain ⟨⟨x0, x1, x2, x3, x4, x5, x6⟩, lx⟩ := blk7 hX
  obtain ⟨pb, po, rfl, hpb, hpi⟩ := hP1.rd.ins pc _ hi
  have i0 := hpi 0 _ rfl
  have i1 := hpi 1 _ rfl
  have i2 := hpi 2 _ rfl
  have i3 := hpi 3 _ rfl
  have i4 := hpi 4 _ rfl
  have i5 := hpi 5 _ rfl
  have i6 := hpi 6 _ rfl
  have i7 := hpi 7 _ rfl
  have i8 := hpi 8 _ rfl
  have i9 := hpi 9 _ rfl
  rw [Nat.add_zero] at i0
  have u0 := hP1.obj.cell 0
  simp only [List.getElem?_cons_zero, List.getElem?_cons_succ] at u0
  have lu := hP1.obj.lt
  have HI := Lib.hid hi
  clear hpi hi
  go_cut [5] from 12 to 20 (fun v wx => ∃ b5, v = .pointer (some ⟨b5, 0, none⟩) ∧ Blk wx b5 [.int .i64 6, .int .i64 ix, .int .i64 iy, .int .i64 kn, .int .i64 imn, .int .i64 imx, .int .u64 is0, .int .u64 is1, .int .u64 is2, .int .u64 is3] 39 ∧ Frm (fun _ => False) w1 wx ∧ w1.heap.size ≤ b5)
  case first =>
    go_wp2_with fail
    go_region
    all_goals
      first
      | (go_wp2_with fail; go_meet; exact ⟨_, rfl, (Blk.new w1 [.int .i64 6, .int .i64 ix, .int .i64 iy, .int .i64 kn, .int .i64 imn, .int .i64 imx, .int .u64 is0, .int .u64 is1, .int .u64 is2, .int .u64 is3] 39).drew, ((Frm.refl _ w1).alloc _).drew, Nat.le_refl _⟩)
      | (go_wp2_with fail; go_meet; exact ⟨_, rfl, Blk.new w1.drew [.int .i64 6, .int .i64 ix, .int .i64 iy, .int .i64 kn, .int .i64 imn, .int .i64 imx, .int .u64 is0, .int .u64 is1, .int .u64 is2, .int .u64 is3] 39, ((Frm.refl _ w1).drew).alloc _, Nat.le_refl _⟩)
  case rest =>
    obtain ⟨b5, rfl, hY, hf1, hb5⟩ := hcut
    obtain ⟨w2, hw2⟩ : ∃ w2, w2 = wc := ⟨_, rfl⟩
    subst hw2
    have hX2 := hX.frm hf1 (fun h => h)
    have hP2 := hP1.frm hf1 (fun h => h) (fun _ _ h => h) (fun h => h)
    have hC2 := hC1.frm hf1 (fun _ _ h => h)
    have hf2 := hf0.trans hf1
    have hz1 := hf1.size
    have hb3l : b3 < w1.heap.size := lx
    have hXl : bX < w1.heap.size := lu
    have hbRl : bR < w1.heap.size := hP1.refs.lt
    clear x0 x1 x2 x3 x4 x5 x6 lx i0 i1 i2 i3 i4 i5 i6 i7 i8 i9 u0 lu hX hP1 hC1 hf0 hf1 hpb
    obtain ⟨⟨x0, x1, x2, x3, x4, x5, x6⟩, lx⟩ := blk7 hX2
    have hO := Blk.new w2 [.int .i64 pc, .int .i64 at_, .slice a1 gr c1, .slice a2 gr c2, .slice a3 gr c3, .slice a4 co c4, .slice a5 co c5] 114
    have hfo : Frm (fun _ => False) w2 (w2.alloc (.cells #[.int .i64 pc, .int .i64 at_, .slice a1 gr c1, .slice a2 gr c2, .slice a3 gr c3, .slice a4 co c4, .slice a5 co c5] 114)) := (Frm.refl _ _).alloc _
    have hX3 := hX2.frm hfo (fun h => h)
    have hY3 := hY.frm hfo (fun h => h)
    have hP3 := hP2.frm hfo (fun h => h) (fun _ _ h => h) (fun h => h)
    have hC3 := hC2.frm hfo (fun _ _ h => h)
    have hf3 := hf2.trans hfo
    go_upto_region 3 with fail
    clear x0 x1 x2 x3 x4 x5 x6 lx
    have hYl := hY.lt
    generalize w2.alloc (.cells #[.int .i64 pc, .int .i64 at_, .slice a1 gr c1, .slice a2 gr c2, .slice a3 gr c3, .slice a4 co c4, .slice a5 co c5] 114) = w3 at *
    obtain ⟨b6, hb6⟩ : ∃ b, w2.heap.size = b := ⟨_, rfl⟩
    simp only [hb6] at hO hz1 hYl ⊢
    have n63 : b6 ≠ b3 := by omega
    have n65 : b6 ≠ b5 := by omega
    have n6X : b6 ≠ bX := by omega
    have n6R : b6 ≠ bR := by omega
    have n36 : b3 ≠ b6 := by omega
    have n56 : b5 ≠ b6 := by omega
    have nX6 : bX ≠ b6 := by omega
    have nR6 : bR ≠ b6 := by omega
    have HB6 : Hid (w.heap.size ≤ b6 ∧ b6 < w3.heap.size ∧ b3 ≤ b6) := Lib.hid ⟨by have := hf2.size; omega, hO.lt, by omega⟩
    clear hb6 hX2 hP2 hC2 hf2 hfo hY
    obtain ⟨⟨x0, x1, x2, x3, x4, x5, x6⟩, lx⟩ := blk7 hX3
    obtain ⟨⟨v0, v1, v2, v3, v4, v5, v6⟩, lv⟩ := blk7 hO
    have vf0 := hO.frozen 0
    have hset : Frm (fun q => q = b6) w3 (w3.setCell ⟨b6, 0, none⟩ (.int .i64 pc1)) := (Frm.refl _ w3).set b6 0 _ (fun _ => rfl)
    have hO4 := hO.setSame 0 (.int .i64 pc1)
    simp only [List.set_cons_zero] at hO4
    have hX4 := hX3.frm hset n36
    have hY4 := hY3.frm hset n56
    have hP4 := hP3.frm hset nX6 (fun q hq e => by have := hq.2; omega) nR6
    have hC4 := hC3.frm hset (fun q hq e => by have := hq.2; omega)
    have hf4 := hf3.then hset (fun q hq hl => by have : q = b6 := hq; have := HB6.out.1; omega)
    have hsz4 : w3.heap.size ≤ (w3.setCell ⟨b6, 0, none⟩ (.int .i64 pc1)).heap.size := hset.size
    go_upto_region 4 with fail
    clear x0 x1 x2 x3 x4 x5 x6 lx v0 v1 v2 v3 v4 v5 v6 lv vf0 hX3 hY3 hP3 hC3 hf3 hset hO
    generalize w3.setCell ⟨b6, 0, none⟩ (.int .i64 pc1) = w4 at *
    obtain ⟨⟨x0, x1, x2, x3, x4, x5, x6⟩, lx⟩ := blk7 hX4
    obtain ⟨⟨v0, v1, v2, v3, v4, v5, v6⟩, lv⟩ := blk7 hO4
    obtain ⟨⟨y0, y1, y2, y3, y4, y5, y6, y7, y8, y9⟩, ly⟩ := blk10 hY4
    have u4 := hP4.obj.cell 4
    have u5 := hP4.obj.cell 5
    have u0 := hP4.obj.cell 0
    have u3 := hP4.obj.cell 3
    simp only [List.getElem?_cons_zero, List.getElem?_cons_succ] at u0 u3 u4 u5
    have lu := hP4.obj.lt
    obtain ⟨rb, hrb, hrc, hrl⟩ := refs_get hP4 kn hkn
    have HRB := Lib.hid hrb
    clear hrb
    cases rb with
    | false =>
      go_wp2_with fail
      go_quiet (fail)
      have hdr : Frm (fun _ => False) w4 (w4.drewN nq) := (Frm.refl _ w4).drewN nq
      have hO5 := hO4.drewN nq
      have hX5 := hX4.drewN nq
      have hY5 := hY4.drewN nq
      have hC5 := hC4.frm hdr (fun _ _ h => h)
      have hP5 := hP4.frm hdr (fun h => h) (fun _ _ h => h) (fun h => h)
      have hf5 := hf4.trans hdr
      clear x0 x1 x2 x3 x4 x5 x6 lx v0 v1 v2 v3 v4 v5 v6 lv y0 y1 y2 y3 y4 y5 y6 y7 y8 y9 ly hO4 hX4 hY4 hC4 hP4 hf4 hdr
      generalize w4.drewN nq = w5 at *
      obtain ⟨⟨x0, x1, x2, x3, x4, x5, x6⟩, lx⟩ := blk7 hX5
      obtain ⟨⟨v0, v1, v2, v3, v4, v5, v6⟩, lv⟩ := blk7 hO5
      obtain ⟨⟨y0, y1, y2, y3, y4, y5, y6, y7, y8, y9⟩, ly⟩ := blk10 hY5
      have HR : Hid (CfL (w5.alloc (.cells #[.int .i64 pc1, .int .i64 at_, .slice a1 gr c1, .slice a2 gr c2, .slice a3 gr c3, .slice a4 co c4, .slice a5 co c5] 114)) (fun q => w.heap.size ≤ q) (fun q => D q ∨ w.heap.size ≤ q) gr co (.slice (some ⟨w5.heap.size, 0, none⟩) 1 1) cs ∧ Frm (fun _ => False) w (w5.alloc (.cells #[.int .i64 pc1, .int .i64 at_, .slice a1 gr c1, .slice a2 gr c2, .slice a3 gr c3, .slice a4 co c4, .slice a5 co c5] 114))) := Lib.hid (by
        have hcs : cs = [⟨pc1, at_, began, frm, til, turns, last⟩] := by
          try rw [← HPC.out]
          rw [show cs = _ from HCS.out.1.symm]
          simp only [Int.toNat_natCast, HRB.out]; rfl
        rw [hcs]
        have hc := hC5.mono (E := fun q => D q ∨ w.heap.size ≤ q) (fun q h _ => .inl h.1)
        exact finC ⟨a1, a2, a3, a4, a5, c1, c2, c3, c4, c5⟩ ⟨pc1, at_, began, frm, til, turns, last⟩ ⟨hc.r1, hc.r2, hc.r3, hc.r4, hc.r5⟩ hf5)
      go_wp2_with fail
      go_ret
      exact ⟨_, rfl, HR.out⟩
    | true =>
      go_wp2_with fail
      go_quiet (fail)
      have hdr : Frm (fun _ => False) w4 (w4.drewN nq) := (Frm.refl _ w4).drewN nq
      have hO5 := hO4.drewN nq
      have hX5 := hX4.drewN nq
      have hY5 := hY4.drewN nq
      have hC5 := hC4.frm hdr (fun _ _ h => h)
      have hP5 := hP4.frm hdr (fun h => h) (fun _ _ h => h) (fun h => h)
      have hf5 := hf4.trans hdr
      clear x0 x1 x2 x3 x4 x5 x6 lx v0 v1 v2 v3 v4 v5 v6 lv y0 y1 y2 y3 y4 y5 y6 y7 y8 y9 ly hO4 hX4 hY4 hC4 hP4 hf4 hdr
      generalize w4.drewN nq = w5 at *
      obtain ⟨⟨x0, x1, x2, x3, x4, x5, x6⟩, lx⟩ := blk7 hX5
      obtain ⟨⟨v0, v1, v2, v3, v4, v5, v6⟩, lv⟩ := blk7 hO5
      obtain ⟨⟨y0, y1, y2, y3, y4, y5, y6, y7, y8, y9⟩, ly⟩ := blk10 hY5
      have HWC := Lib.hid (withC a1 gr c1 kn (at_) began _ w5 hC5.r1 hkn (by omega))
      go_wp2_with fail
      refine HWC.out.mono ?_
      rintro e w6 ⟨B7, d7, rfl, hs7, hfw⟩
      have hO6 := hO5.frm hfw (fun h => h)
      have hX6 := hX5.frm hfw (fun h => h)
      have hY6 := hY5.frm hfw (fun h => h)
      have hC6 := hC5.frm hfw (fun _ _ h => h)
      have hf6 := hf5.trans hfw
      have hl6 := hO5.lt
      have hwz : w.heap.size ≤ w5.heap.size := hf5.size
      have hr7 := hs7.rd.mono (G := fun q => w.heap.size ≤ q ∧ q ≠ b6) (fun q h _ => by have : w5.heap.size ≤ q := h; exact ⟨by omega, by omega⟩)
      clear HWC hs7 hfw hwz hl6
      clear x0 x1 x2 x3 x4 x5 x6 lx v0 v1 v2 v3 v4 v5 v6 lv y0 y1 y2 y3 y4 y5 y6 y7 y8 y9 ly hO5 hX5 hY5 hC5 hf5
      obtain ⟨⟨x0, x1, x2, x3, x4, x5, x6⟩, lx⟩ := blk7 hX6
      obtain ⟨⟨v0, v1, v2, v3, v4, v5, v6⟩, lv⟩ := blk7 hO6
      obtain ⟨⟨y0, y1, y2, y3, y4, y5, y6, y7, y8, y9⟩, ly⟩ := blk10 hY6
      have vf := hO6.frozen 2
      have hset : Frm (fun q => q = b6) w6 (w6.setCell ⟨b6, 2, none⟩ (.slice B7 gr d7)) := (Frm.refl _ w6).set b6 2 _ (fun _ => rfl)
      have hO7 := hO6.setSame 2 (.slice B7 gr d7)
      simp only [List.set_cons_zero, List.set_cons_succ] at hO7
      have hX7 := hX6.frm hset n36
      have hY7 := hY6.frm hset n56
      have hC7 := hC6.frm hset (fun q hq e => by have := hq.2; have := HB6.out; omega)
      have hf7 := hf6.then hset (fun q hq hl => by have : q = b6 := hq; have := HB6.out.1; omega)
      have hr7 := hr7.frm hset (fun q hq e => hq.2 e)
      go_upto_region 51 with fail
      clear x0 x1 x2 x3 x4 x5 x6 lx v0 v1 v2 v3 v4 v5 v6 lv y0 y1 y2 y3 y4 y5 y6 y7 y8 y9 ly vf hset hO6 hX6 hY6 hC6 hf6
      generalize w6.setCell ⟨b6, 2, none⟩ (.slice B7 gr d7) = w7 at *
      obtain ⟨⟨x0, x1, x2, x3, x4, x5, x6⟩, lx⟩ := blk7 hX7
      obtain ⟨⟨v0, v1, v2, v3, v4, v5, v6⟩, lv⟩ := blk7 hO7
      obtain ⟨⟨y0, y1, y2, y3, y4, y5, y6, y7, y8, y9⟩, ly⟩ := blk10 hY7
      have HR : Hid (CfL (w7.alloc (.cells #[.int .i64 pc1, .int .i64 at_, .slice B7 gr d7, .slice a2 gr c2, .slice a3 gr c3, .slice a4 co c4, .slice a5 co c5] 114)) (fun q => w.heap.size ≤ q) (fun q => D q ∨ w.heap.size ≤ q) gr co (.slice (some ⟨w7.heap.size, 0, none⟩) 1 1) cs ∧ Frm (fun _ => False) w (w7.alloc (.cells #[.int .i64 pc1, .int .i64 at_, .slice B7 gr d7, .slice a2 gr c2, .slice a3 gr c3, .slice a4 co c4, .slice a5 co c5] 114))) := Lib.hid (by
        have hcs : cs = [⟨pc1, at_, began.set kn at_, frm, til, turns, last⟩] := by
          try rw [← HPC.out]
          rw [show cs = _ from HCS.out.1.symm]
          simp only [Int.toNat_natCast, HRB.out]; rfl
        rw [hcs]
        have hc := hC7.mono (E := fun q => D q ∨ w.heap.size ≤ q) (fun q h _ => .inl h.1)
        exact finC ⟨B7, a2, a3, a4, a5, d7, c2, c3, c4, c5⟩ ⟨pc1, at_, began.set kn at_, frm, til, turns, last⟩ ⟨(hr7.mono (G := fun q => D q ∨ w.heap.size ≤ q) (fun q h _ => .inr h.1)), hc.r2, hc.r3, hc.r4, hc.r5⟩ hf7)
      go_wp2_with fail
      go_ret
      exact ⟨_, rfl, HR.out⟩
set_option maxHeartbeats 8000000 in
theorem next9 (bX : Nat) (A : Option Addr) (n cp gr co : Nat) (fo : Bool) (ins : List Ins) (line : ByteArray) (bR : Nat) (sv mv : Value) (s : CA) (c : RC) (i : Ins) (E D : Nat → Prop) (w : World) (hP : PlM w E bX A n cp gr co fo ins line bR sv mv) (hC : CRd w D s gr co c) (hR : RW ins line.size c) (hi : ins[c.pc]? = some i) (f : FineI ins.length gr co c.pc i) (hgr : gr ≤ 30) (hco : co ≤ 40) (hni : ins.length ≤ 40000) (hN : line.size ≤ 1000000) (hop : i.op = 9) :
    Calls Try.prog 50 #[.pointer (some ⟨bX, 0, none⟩), .agg (s.cells gr co c.pc c.at_).toArray] w fun e w' => ∃ v, e = .returned v ∧ CfL w' (fun q => w.heap.size ≤ q) (fun q => D q ∨ w.heap.size ≤ q) gr co v (nextR ins fo line.toList (refsN ins gr) c) ∧ Frm (fun _ => False) w w' := by
  obtain ⟨kn, hkn0⟩ := Int.eq_ofNat_of_zero_le (f.c (by simp [hop])).1
  have hkn : kn < co := by have := (f.c (by simp [hop])).2; omega
  obtain ⟨cs, hcs⟩ : ∃ cs, nextR ins fo line.toList (refsN ins gr) c = cs := ⟨_, rfl⟩
  rw [hcs]
  have hcs2 := hcs
  unfold nextR at hcs2
  rw [hi] at hcs2
  simp only [hop] at hcs2
  have hlb : line.toList.length = line.size := by rw [ByteArray.toList_eq]; simp
  have hcl := hC.len
  obtain ⟨a1, a2, a3, a4, a5, c1, c2, c3, c4, c5⟩ := s
  obtain ⟨pc, at_, began, frm, til, turns, last⟩ := c
  obtain ⟨iop, ix, iy, i_n, imn, imx, is0, is1, is2, is3⟩ := i
  simp only [CA.cells] at *
  subst hop hkn0
  have HCS := Lib.hid (⟨hcs2, hlb⟩ : _ ∧ _)
  have HRW := Lib.hid hR
  have HFI := Lib.hid f
  have HCL := Lib.hid hcl
  have hatN : at_ ≤ line.size := hR.at_
  have hpcn : pc < n := by have := hR.pc; have h2 := hP.rd.len; rw [flatI_len] at h2; simp only at this; omega
  have hpcb : pc ≤ 40000 := by have := hR.pc; simp only at this; omega
  obtain ⟨pc1, hpc1⟩ : ∃ p, pc + 1 = p := ⟨_, rfl⟩
  have hwp : IntKind.i64.wrap ((pc : Int) + 1) = (pc1 : Int) := by rw [IntWalk.i64_in _ (by omega)]; omega
  have HPC := Lib.hid hpc1
  clear hcs hcs2 hlb hR f hcl hpc1
  have hX := Blk.new w [.int .i64 pc, .int .i64 at_, .slice a1 gr c1, .slice a2 gr c2, .slice a3 gr c3, .slice a4 co c4, .slice a5 co c5] 114
  have hf0 : Frm (fun _ => False) w (w.alloc (.cells #[.int .i64 pc, .int .i64 at_, .slice a1 gr c1, .slice a2 gr c2, .slice a3 gr c3, .slice a4 co c4, .slice a5 co c5] 114)) := (Frm.refl _ _).alloc _
  have hC1 := hC.low.frm hf0 (fun _ _ h => h)
  have hP1 := hP.low.frm hf0 (fun h => h) (fun _ _ h => h) (fun h => h)
  clear hP hC
  go_enter Try.func50, Try.ntmps50
  go_upto_region 1 with fail
  generalize w.alloc (.cells #[.int .i64 pc, .int .i64 at_, .slice a1 gr c1, .slice a2 gr c2, .slice a3 gr c3, .slice a4 co c4, .slice a5 co c5] 114) = w1 at *
  obtain ⟨b3, hb3⟩ : ∃ b, w.heap.size = b := ⟨_, rfl⟩
  simp only [hb3] at hX hC1 hP1 ⊢
  have HB := Lib.hid hb3
  clear hb3
  obtain ⟨⟨x0, x1, x2, x3, x4, x5, x6⟩, lx⟩ := blk7 hX
  obtain ⟨pb, po, rfl, hpb, hpi⟩ := hP1.rd.ins pc _ hi
  have i0 := hpi 0 _ rfl
  have i1 := hpi 1 _ rfl
  have i2 := hpi 2 _ rfl
  have i3 := hpi 3 _ rfl
  have i4 := hpi 4 _ rfl
  have i5 := hpi 5 _ rfl
  have i6 := hpi 6 _ rfl
  have i7 := hpi 7 _ rfl
  have i8 := hpi 8 _ rfl
  have i9 := hpi 9 _ rfl
  rw [Nat.add_zero] at i0
  have u0 := hP1.obj.cell 0
  simp only [List.getElem?_cons_zero, List.getElem?_cons_succ] at u0
  have lu := hP1.obj.lt
  have HI := Lib.hid hi
  clear hpi hi
  go_cut [5] from 12 to 20 (fun v wx => ∃ b5, v = .pointer (some ⟨b5, 0, none⟩) ∧ Blk wx b5 [.int .i64 9, .int .i64 ix, .int .i64 iy, .int .i64 kn, .int .i64 imn, .int .i64 imx, .int .u64 is0, .int .u64 is1, .int .u64 is2, .int .u64 is3] 39 ∧ Frm (fun _ => False) w1 wx ∧ w1.heap.size ≤ b5)
  case first =>
    go_wp2_with fail
    go_region
    all_goals
      first
      | (go_wp2_with fail; go_meet; exact ⟨_, rfl, (Blk.new w1 [.int .i64 9, .int .i64 ix, .int .i64 iy, .int .i64 kn, .int .i64 imn, .int .i64 imx, .int .u64 is0, .int .u64 is1, .int .u64 is2, .int .u64 is3] 39).drew, ((Frm.refl _ w1).alloc _).drew, Nat.le_refl _⟩)
      | (go_wp2_with fail; go_meet; exact ⟨_, rfl, Blk.new w1.drew [.int .i64 9, .int .i64 ix, .int .i64 iy, .int .i64 kn, .int .i64 imn, .int .i64 imx, .int .u64 is0, .int .u64 is1, .int .u64 is2, .int .u64 is3] 39, ((Frm.refl _ w1).drew).alloc _, Nat.le_refl _⟩)
  case rest =>
    obtain ⟨b5, rfl, hY, hf1, hb5⟩ := hcut
    obtain ⟨w2, hw2⟩ : ∃ w2, w2 = wc := ⟨_, rfl⟩
    subst hw2
    have hX2 := hX.frm hf1 (fun h => h)
    have hP2 := hP1.frm hf1 (fun h => h) (fun _ _ h => h) (fun h => h)
    have hC2 := hC1.frm hf1 (fun _ _ h => h)
    have hf2 := hf0.trans hf1
    have hz1 := hf1.size
    have hb3l : b3 < w1.heap.size := lx
    have hXl : bX < w1.heap.size := lu
    have hbRl : bR < w1.heap.size := hP1.refs.lt
    clear x0 x1 x2 x3 x4 x5 x6 lx i0 i1 i2 i3 i4 i5 i6 i7 i8 i9 u0 lu hX hP1 hC1 hf0 hf1 hpb
    obtain ⟨⟨x0, x1, x2, x3, x4, x5, x6⟩, lx⟩ := blk7 hX2
    have hO := Blk.new w2 [.int .i64 pc, .int .i64 at_, .slice a1 gr c1, .slice a2 gr c2, .slice a3 gr c3, .slice a4 co c4, .slice a5 co c5] 114
    have hfo : Frm (fun _ => False) w2 (w2.alloc (.cells #[.int .i64 pc, .int .i64 at_, .slice a1 gr c1, .slice a2 gr c2, .slice a3 gr c3, .slice a4 co c4, .slice a5 co c5] 114)) := (Frm.refl _ _).alloc _
    have hX3 := hX2.frm hfo (fun h => h)
    have hY3 := hY.frm hfo (fun h => h)
    have hP3 := hP2.frm hfo (fun h => h) (fun _ _ h => h) (fun h => h)
    have hC3 := hC2.frm hfo (fun _ _ h => h)
    have hf3 := hf2.trans hfo
    go_upto_region 3 with fail
    clear x0 x1 x2 x3 x4 x5 x6 lx
    have hYl := hY.lt
    generalize w2.alloc (.cells #[.int .i64 pc, .int .i64 at_, .slice a1 gr c1, .slice a2 gr c2, .slice a3 gr c3, .slice a4 co c4, .slice a5 co c5] 114) = w3 at *
    obtain ⟨b6, hb6⟩ : ∃ b, w2.heap.size = b := ⟨_, rfl⟩
    simp only [hb6] at hO hz1 hYl ⊢
    have n63 : b6 ≠ b3 := by omega
    have n65 : b6 ≠ b5 := by omega
    have n6X : b6 ≠ bX := by omega
    have n6R : b6 ≠ bR := by omega
    have n36 : b3 ≠ b6 := by omega
    have n56 : b5 ≠ b6 := by omega
    have nX6 : bX ≠ b6 := by omega
    have nR6 : bR ≠ b6 := by omega
    have HB6 : Hid (w.heap.size ≤ b6 ∧ b6 < w3.heap.size ∧ b3 ≤ b6) := Lib.hid ⟨by have := hf2.size; omega, hO.lt, by omega⟩
    clear hb6 hX2 hP2 hC2 hf2 hfo hY
    obtain ⟨⟨x0, x1, x2, x3, x4, x5, x6⟩, lx⟩ := blk7 hX3
    obtain ⟨⟨v0, v1, v2, v3, v4, v5, v6⟩, lv⟩ := blk7 hO
    have vf0 := hO.frozen 0
    have hset : Frm (fun q => q = b6) w3 (w3.setCell ⟨b6, 0, none⟩ (.int .i64 pc1)) := (Frm.refl _ w3).set b6 0 _ (fun _ => rfl)
    have hO4 := hO.setSame 0 (.int .i64 pc1)
    simp only [List.set_cons_zero] at hO4
    have hX4 := hX3.frm hset n36
    have hY4 := hY3.frm hset n56
    have hP4 := hP3.frm hset nX6 (fun q hq e => by have := hq.2; omega) nR6
    have hC4 := hC3.frm hset (fun q hq e => by have := hq.2; omega)
    have hf4 := hf3.then hset (fun q hq hl => by have : q = b6 := hq; have := HB6.out.1; omega)
    have hsz4 : w3.heap.size ≤ (w3.setCell ⟨b6, 0, none⟩ (.int .i64 pc1)).heap.size := hset.size
    go_upto_region 4 with fail
    clear x0 x1 x2 x3 x4 x5 x6 lx v0 v1 v2 v3 v4 v5 v6 lv vf0 hX3 hY3 hP3 hC3 hf3 hset hO
    generalize w3.setCell ⟨b6, 0, none⟩ (.int .i64 pc1) = w4 at *
    obtain ⟨⟨x0, x1, x2, x3, x4, x5, x6⟩, lx⟩ := blk7 hX4
    obtain ⟨⟨v0, v1, v2, v3, v4, v5, v6⟩, lv⟩ := blk7 hO4
    obtain ⟨⟨y0, y1, y2, y3, y4, y5, y6, y7, y8, y9⟩, ly⟩ := blk10 hY4
    have HWC := Lib.hid (withC a4 co c4 kn (0) turns _ w4 hC4.r4 hkn (by omega))
    go_wp2_with fail
    refine HWC.out.mono ?_
    rintro e w5 ⟨B7, d7, rfl, hs7, hfw⟩
    have hO5 := hO4.frm hfw (fun h => h)
    have hX5 := hX4.frm hfw (fun h => h)
    have hY5 := hY4.frm hfw (fun h => h)
    have hC5 := hC4.frm hfw (fun _ _ h => h)
    have hf5 := hf4.trans hfw
    have hl6 := hO4.lt
    have hwz : w.heap.size ≤ w4.heap.size := hf4.size
    have hr7 := hs7.rd.mono (G := fun q => w.heap.size ≤ q ∧ q ≠ b6) (fun q h _ => by have : w4.heap.size ≤ q := h; exact ⟨by omega, by omega⟩)
    clear HWC hs7 hfw hwz hl6
    clear x0 x1 x2 x3 x4 x5 x6 lx v0 v1 v2 v3 v4 v5 v6 lv y0 y1 y2 y3 y4 y5 y6 y7 y8 y9 ly hO4 hX4 hY4 hC4 hf4
    obtain ⟨⟨x0, x1, x2, x3, x4, x5, x6⟩, lx⟩ := blk7 hX5
    obtain ⟨⟨v0, v1, v2, v3, v4, v5, v6⟩, lv⟩ := blk7 hO5
    obtain ⟨⟨y0, y1, y2, y3, y4, y5, y6, y7, y8, y9⟩, ly⟩ := blk10 hY5
    have vf := hO5.frozen 5
    have hset : Frm (fun q => q = b6) w5 (w5.setCell ⟨b6, 5, none⟩ (.slice B7 co d7)) := (Frm.refl _ w5).set b6 5 _ (fun _ => rfl)
    have hO6 := hO5.setSame 5 (.slice B7 co d7)
    simp only [List.set_cons_zero, List.set_cons_succ] at hO6
    have hX6 := hX5.frm hset n36
    have hY6 := hY5.frm hset n56
    have hC6 := hC5.frm hset (fun q hq e => by have := hq.2; have := HB6.out; omega)
    have hf6 := hf5.then hset (fun q hq hl => by have : q = b6 := hq; have := HB6.out.1; omega)
    have hr7 := hr7.frm hset (fun q hq e => hq.2 e)
    go_upto_region 46 with fail
    clear x0 x1 x2 x3 x4 x5 x6 lx v0 v1 v2 v3 v4 v5 v6 lv y0 y1 y2 y3 y4 y5 y6 y7 y8 y9 ly vf hset hO5 hX5 hY5 hC5 hf5
    generalize w5.setCell ⟨b6, 5, none⟩ (.slice B7 co d7) = w6 at *
    obtain ⟨⟨x0, x1, x2, x3, x4, x5, x6⟩, lx⟩ := blk7 hX6
    obtain ⟨⟨v0, v1, v2, v3, v4, v5, v6⟩, lv⟩ := blk7 hO6
    obtain ⟨⟨y0, y1, y2, y3, y4, y5, y6, y7, y8, y9⟩, ly⟩ := blk10 hY6
    have HWC := Lib.hid (withC a5 co c5 kn (-1) last _ w6 hC6.r5 hkn (by omega))
    go_wp2_with fail
    refine HWC.out.mono ?_
    rintro e w7 ⟨B8, d8, rfl, hs8, hfw⟩
    have hO7 := hO6.frm hfw (fun h => h)
    have hX7 := hX6.frm hfw (fun h => h)
    have hY7 := hY6.frm hfw (fun h => h)
    have hC7 := hC6.frm hfw (fun _ _ h => h)
    have hf7 := hf6.trans hfw
    have hl6 := hO6.lt
    have hwz : w.heap.size ≤ w6.heap.size := hf6.size
    have hr8 := hs8.rd.mono (G := fun q => w.heap.size ≤ q ∧ q ≠ b6) (fun q h _ => by have : w6.heap.size ≤ q := h; exact ⟨by omega, by omega⟩)
    have hr7 := hr7.frm hfw (fun _ _ h => h)
    clear HWC hs8 hfw hwz hl6
    clear x0 x1 x2 x3 x4 x5 x6 lx v0 v1 v2 v3 v4 v5 v6 lv y0 y1 y2 y3 y4 y5 y6 y7 y8 y9 ly hO6 hX6 hY6 hC6 hf6
    obtain ⟨⟨x0, x1, x2, x3, x4, x5, x6⟩, lx⟩ := blk7 hX7
    obtain ⟨⟨v0, v1, v2, v3, v4, v5, v6⟩, lv⟩ := blk7 hO7
    obtain ⟨⟨y0, y1, y2, y3, y4, y5, y6, y7, y8, y9⟩, ly⟩ := blk10 hY7
    have vf := hO7.frozen 6
    have hset : Frm (fun q => q = b6) w7 (w7.setCell ⟨b6, 6, none⟩ (.slice B8 co d8)) := (Frm.refl _ w7).set b6 6 _ (fun _ => rfl)
    have hO8 := hO7.setSame 6 (.slice B8 co d8)
    simp only [List.set_cons_zero, List.set_cons_succ] at hO8
    have hX8 := hX7.frm hset n36
    have hY8 := hY7.frm hset n56
    have hC8 := hC7.frm hset (fun q hq e => by have := hq.2; have := HB6.out; omega)
    have hf8 := hf7.then hset (fun q hq hl => by have : q = b6 := hq; have := HB6.out.1; omega)
    have hr7 := hr7.frm hset (fun q hq e => hq.2 e)
    have hr8 := hr8.frm hset (fun q hq e => hq.2 e)
    go_upto_region 51 with fail
    clear x0 x1 x2 x3 x4 x5 x6 lx v0 v1 v2 v3 v4 v5 v6 lv y0 y1 y2 y3 y4 y5 y6 y7 y8 y9 ly vf hset hO7 hX7 hY7 hC7 hf7
    generalize w7.setCell ⟨b6, 6, none⟩ (.slice B8 co d8) = w8 at *
    obtain ⟨⟨x0, x1, x2, x3, x4, x5, x6⟩, lx⟩ := blk7 hX8
    obtain ⟨⟨v0, v1, v2, v3, v4, v5, v6⟩, lv⟩ := blk7 hO8
    obtain ⟨⟨y0, y1, y2, y3, y4, y5, y6, y7, y8, y9⟩, ly⟩ := blk10 hY8
    have HR : Hid (CfL (w8.alloc (.cells #[.int .i64 pc1, .int .i64 at_, .slice a1 gr c1, .slice a2 gr c2, .slice a3 gr c3, .slice B7 co d7, .slice B8 co d8] 114)) (fun q => w.heap.size ≤ q) (fun q => D q ∨ w.heap.size ≤ q) gr co (.slice (some ⟨w8.heap.size, 0, none⟩) 1 1) cs ∧ Frm (fun _ => False) w (w8.alloc (.cells #[.int .i64 pc1, .int .i64 at_, .slice a1 gr c1, .slice a2 gr c2, .slice a3 gr c3, .slice B7 co d7, .slice B8 co d8] 114))) := Lib.hid (by
      have hcs : cs = [⟨pc1, at_, began, frm, til, turns.set kn 0, last.set kn (-1)⟩] := by
        try rw [← HPC.out]
        rw [show cs = _ from HCS.out.1.symm]
        simp
      rw [hcs]
      have hc := hC8.mono (E := fun q => D q ∨ w.heap.size ≤ q) (fun q h _ => .inl h.1)
      exact finC ⟨a1, a2, a3, B7, B8, c1, c2, c3, d7, d8⟩ ⟨pc1, at_, began, frm, til, turns.set kn 0, last.set kn (-1)⟩ ⟨hc.r1, hc.r2, hc.r3, (hr7.mono (G := fun q => D q ∨ w.heap.size ≤ q) (fun q h _ => .inr h.1)), (hr8.mono (G := fun q => D q ∨ w.heap.size ≤ q) (fun q h _ => .inr h.1))⟩ hf8)
    go_wp2_with fail
    go_ret
    exact ⟨_, rfl, HR.out⟩
set_option maxHeartbeats 8000000 in
theorem next10 (bX : Nat) (A : Option Addr) (n cp gr co : Nat) (fo : Bool) (ins : List Ins) (line : ByteArray) (bR : Nat) (sv mv : Value) (s : CA) (c : RC) (i : Ins) (E D : Nat → Prop) (w : World) (hP : PlM w E bX A n cp gr co fo ins line bR sv mv) (hC : CRd w D s gr co c) (hR : RW ins line.size c) (hi : ins[c.pc]? = some i) (f : FineI ins.length gr co c.pc i) (hgr : gr ≤ 30) (hco : co ≤ 40) (hni : ins.length ≤ 40000) (hN : line.size ≤ 1000000) (hop : i.op = 10) :
    Calls Try.prog 50 #[.pointer (some ⟨bX, 0, none⟩), .agg (s.cells gr co c.pc c.at_).toArray] w fun e w' => ∃ v, e = .returned v ∧ CfL w' (fun q => w.heap.size ≤ q) (fun q => D q ∨ w.heap.size ≤ q) gr co v (nextR ins fo line.toList (refsN ins gr) c) ∧ Frm (fun _ => False) w w' := by
  obtain ⟨xn, hxn⟩ := Int.eq_ofNat_of_zero_le (f.x (by simp [hop])).1
  obtain ⟨yn, hyn⟩ := Int.eq_ofNat_of_zero_le (f.y (by simp [hop])).1
  obtain ⟨kn, hkn0⟩ := Int.eq_ofNat_of_zero_le (f.c (by simp [hop])).1
  have hkn : kn < co := by have := (f.c (by simp [hop])).2; omega
  obtain ⟨cs, hcs⟩ : ∃ cs, nextR ins fo line.toList (refsN ins gr) c = cs := ⟨_, rfl⟩
  rw [hcs]
  have hcs2 := hcs
  unfold nextR at hcs2
  rw [hi] at hcs2
  simp only [hop] at hcs2
  have hlb : line.toList.length = line.size := by rw [ByteArray.toList_eq]; simp
  have hcl := hC.len
  obtain ⟨a1, a2, a3, a4, a5, c1, c2, c3, c4, c5⟩ := s
  obtain ⟨pc, at_, began, frm, til, turns, last⟩ := c
  obtain ⟨iop, ix, iy, i_n, imn, imx, is0, is1, is2, is3⟩ := i
  simp only [CA.cells] at *
  subst hop hxn hyn hkn0
  have HCS := Lib.hid (⟨hcs2, hlb⟩ : _ ∧ _)
  have HRW := Lib.hid hR
  have HFI := Lib.hid f
  have HCL := Lib.hid hcl
  have hatN : at_ ≤ line.size := hR.at_
  have hpcn : pc < n := by have := hR.pc; have h2 := hP.rd.len; rw [flatI_len] at h2; simp only at this; omega
  have hpcb : pc ≤ 40000 := by have := hR.pc; simp only at this; omega
  obtain ⟨pc1, hpc1⟩ : ∃ p, pc + 1 = p := ⟨_, rfl⟩
  have hwp : IntKind.i64.wrap ((pc : Int) + 1) = (pc1 : Int) := by rw [IntWalk.i64_in _ (by omega)]; omega
  have HPC := Lib.hid hpc1
  clear hcs hcs2 hlb hR f hcl hpc1
  have hX := Blk.new w [.int .i64 pc, .int .i64 at_, .slice a1 gr c1, .slice a2 gr c2, .slice a3 gr c3, .slice a4 co c4, .slice a5 co c5] 114
  have hf0 : Frm (fun _ => False) w (w.alloc (.cells #[.int .i64 pc, .int .i64 at_, .slice a1 gr c1, .slice a2 gr c2, .slice a3 gr c3, .slice a4 co c4, .slice a5 co c5] 114)) := (Frm.refl _ _).alloc _
  have hC1 := hC.low.frm hf0 (fun _ _ h => h)
  have hP1 := hP.low.frm hf0 (fun h => h) (fun _ _ h => h) (fun h => h)
  clear hP hC
  go_enter Try.func50, Try.ntmps50
  go_upto_region 1 with fail
  generalize w.alloc (.cells #[.int .i64 pc, .int .i64 at_, .slice a1 gr c1, .slice a2 gr c2, .slice a3 gr c3, .slice a4 co c4, .slice a5 co c5] 114) = w1 at *
  obtain ⟨b3, hb3⟩ : ∃ b, w.heap.size = b := ⟨_, rfl⟩
  simp only [hb3] at hX hC1 hP1 ⊢
  have HB := Lib.hid hb3
  clear hb3
  obtain ⟨⟨x0, x1, x2, x3, x4, x5, x6⟩, lx⟩ := blk7 hX
  obtain ⟨pb, po, rfl, hpb, hpi⟩ := hP1.rd.ins pc _ hi
  have i0 := hpi 0 _ rfl
  have i1 := hpi 1 _ rfl
  have i2 := hpi 2 _ rfl
  have i3 := hpi 3 _ rfl
  have i4 := hpi 4 _ rfl
  have i5 := hpi 5 _ rfl
  have i6 := hpi 6 _ rfl
  have i7 := hpi 7 _ rfl
  have i8 := hpi 8 _ rfl
  have i9 := hpi 9 _ rfl
  rw [Nat.add_zero] at i0
  have u0 := hP1.obj.cell 0
  simp only [List.getElem?_cons_zero, List.getElem?_cons_succ] at u0
  have lu := hP1.obj.lt
  have HI := Lib.hid hi
  clear hpi hi
  go_cut [5] from 12 to 20 (fun v wx => ∃ b5, v = .pointer (some ⟨b5, 0, none⟩) ∧ Blk wx b5 [.int .i64 10, .int .i64 xn, .int .i64 yn, .int .i64 kn, .int .i64 imn, .int .i64 imx, .int .u64 is0, .int .u64 is1, .int .u64 is2, .int .u64 is3] 39 ∧ Frm (fun _ => False) w1 wx ∧ w1.heap.size ≤ b5)
  case first =>
    go_wp2_with fail
    go_region
    all_goals
      first
      | (go_wp2_with fail; go_meet; exact ⟨_, rfl, (Blk.new w1 [.int .i64 10, .int .i64 xn, .int .i64 yn, .int .i64 kn, .int .i64 imn, .int .i64 imx, .int .u64 is0, .int .u64 is1, .int .u64 is2, .int .u64 is3] 39).drew, ((Frm.refl _ w1).alloc _).drew, Nat.le_refl _⟩)
      | (go_wp2_with fail; go_meet; exact ⟨_, rfl, Blk.new w1.drew [.int .i64 10, .int .i64 xn, .int .i64 yn, .int .i64 kn, .int .i64 imn, .int .i64 imx, .int .u64 is0, .int .u64 is1, .int .u64 is2, .int .u64 is3] 39, ((Frm.refl _ w1).drew).alloc _, Nat.le_refl _⟩)
  case rest =>
    obtain ⟨b5, rfl, hY, hf1, hb5⟩ := hcut
    obtain ⟨w2, hw2⟩ : ∃ w2, w2 = wc := ⟨_, rfl⟩
    subst hw2
    have hX2 := hX.frm hf1 (fun h => h)
    have hP2 := hP1.frm hf1 (fun h => h) (fun _ _ h => h) (fun h => h)
    have hC2 := hC1.frm hf1 (fun _ _ h => h)
    have hf2 := hf0.trans hf1
    have hz1 := hf1.size
    have hb3l : b3 < w1.heap.size := lx
    have hXl : bX < w1.heap.size := lu
    have hbRl : bR < w1.heap.size := hP1.refs.lt
    clear x0 x1 x2 x3 x4 x5 x6 lx i0 i1 i2 i3 i4 i5 i6 i7 i8 i9 u0 lu hX hP1 hC1 hf0 hf1 hpb
    obtain ⟨⟨x0, x1, x2, x3, x4, x5, x6⟩, lx⟩ := blk7 hX2
    have hO := Blk.new w2 [.int .i64 pc, .int .i64 at_, .slice a1 gr c1, .slice a2 gr c2, .slice a3 gr c3, .slice a4 co c4, .slice a5 co c5] 114
    have hfo : Frm (fun _ => False) w2 (w2.alloc (.cells #[.int .i64 pc, .int .i64 at_, .slice a1 gr c1, .slice a2 gr c2, .slice a3 gr c3, .slice a4 co c4, .slice a5 co c5] 114)) := (Frm.refl _ _).alloc _
    have hX3 := hX2.frm hfo (fun h => h)
    have hY3 := hY.frm hfo (fun h => h)
    have hP3 := hP2.frm hfo (fun h => h) (fun _ _ h => h) (fun h => h)
    have hC3 := hC2.frm hfo (fun _ _ h => h)
    have hf3 := hf2.trans hfo
    go_upto_region 3 with fail
    clear x0 x1 x2 x3 x4 x5 x6 lx
    have hYl := hY.lt
    generalize w2.alloc (.cells #[.int .i64 pc, .int .i64 at_, .slice a1 gr c1, .slice a2 gr c2, .slice a3 gr c3, .slice a4 co c4, .slice a5 co c5] 114) = w3 at *
    obtain ⟨b6, hb6⟩ : ∃ b, w2.heap.size = b := ⟨_, rfl⟩
    simp only [hb6] at hO hz1 hYl ⊢
    have n63 : b6 ≠ b3 := by omega
    have n65 : b6 ≠ b5 := by omega
    have n6X : b6 ≠ bX := by omega
    have n6R : b6 ≠ bR := by omega
    have n36 : b3 ≠ b6 := by omega
    have n56 : b5 ≠ b6 := by omega
    have nX6 : bX ≠ b6 := by omega
    have nR6 : bR ≠ b6 := by omega
    have HB6 : Hid (w.heap.size ≤ b6 ∧ b6 < w3.heap.size ∧ b3 ≤ b6) := Lib.hid ⟨by have := hf2.size; omega, hO.lt, by omega⟩
    clear hb6 hX2 hP2 hC2 hf2 hfo hY
    obtain ⟨⟨x0, x1, x2, x3, x4, x5, x6⟩, lx⟩ := blk7 hX3
    obtain ⟨⟨v0, v1, v2, v3, v4, v5, v6⟩, lv⟩ := blk7 hO
    have vf0 := hO.frozen 0
    have hset : Frm (fun q => q = b6) w3 (w3.setCell ⟨b6, 0, none⟩ (.int .i64 pc1)) := (Frm.refl _ w3).set b6 0 _ (fun _ => rfl)
    have hO4 := hO.setSame 0 (.int .i64 pc1)
    simp only [List.set_cons_zero] at hO4
    have hX4 := hX3.frm hset n36
    have hY4 := hY3.frm hset n56
    have hP4 := hP3.frm hset nX6 (fun q hq e => by have := hq.2; omega) nR6
    have hC4 := hC3.frm hset (fun q hq e => by have := hq.2; omega)
    have hf4 := hf3.then hset (fun q hq hl => by have : q = b6 := hq; have := HB6.out.1; omega)
    have hsz4 : w3.heap.size ≤ (w3.setCell ⟨b6, 0, none⟩ (.int .i64 pc1)).heap.size := hset.size
    go_upto_region 4 with fail
    clear x0 x1 x2 x3 x4 x5 x6 lx v0 v1 v2 v3 v4 v5 v6 lv vf0 hX3 hY3 hP3 hC3 hf3 hset hO
    generalize w3.setCell ⟨b6, 0, none⟩ (.int .i64 pc1) = w4 at *
    obtain ⟨⟨x0, x1, x2, x3, x4, x5, x6⟩, lx⟩ := blk7 hX4
    obtain ⟨⟨v0, v1, v2, v3, v4, v5, v6⟩, lv⟩ := blk7 hO4
    obtain ⟨⟨y0, y1, y2, y3, y4, y5, y6, y7, y8, y9⟩, ly⟩ := blk10 hY4
    have HTC := Lib.hid (turnC bX ⟨a1, a2, a3, a4, a5, c1, c2, c3, c4, c5⟩ gr co ⟨pc, at_, began, frm, til, turns, last⟩ ⟨10, xn, yn, kn, imn, imx, is0, is1, is2, is3⟩ line.size _ w4 hC4 ⟨by simp, by simp; exact hkn⟩ hatN (by omega) HRW.out.tn hco (by simp) (by simp))
    go_wp2_with fail
    refine HTC.out.mono ?_
    rintro e w5 ⟨v, rfl, ⟨ps, hps, hS, hCs⟩, hf5⟩
    have hz4 := hf4.size
    have HR : Hid (CfL w5 (fun q => w.heap.size ≤ q) (fun q => D q ∨ w.heap.size ≤ q) gr co v cs ∧ Frm (fun _ => False) w w5) := Lib.hid (by
      have hcs : turnR ⟨10, xn, yn, kn, imn, imx, is0, is1, is2, is3⟩ ⟨pc, at_, began, frm, til, turns, last⟩ = cs := by
        rw [show cs = _ from HCS.out.1.symm]
        simp
      rw [hcs] at hps hS
      refine ⟨⟨ps, hps, hS.mono (fun q h _ => by have : w4.heap.size ≤ q := h; show w.heap.size ≤ q; omega), fun p hp => (hCs p hp).mono (fun q h _ => ?_)⟩, hf4.trans hf5⟩
      rcases h with h | h
      · exact .inl h.1
      · exact .inr (by omega))
    have hfm : ∃ A c, v = .slice A cs.length c := by
      obtain ⟨ps, _, hS, _⟩ := HR.out.1
      exact hS.form
    obtain ⟨A9, c9, rfl⟩ := hfm
    clear hS hCs hps hf5
    go_wp2_with fail
    go_ret
    exact ⟨_, rfl, HR.out⟩
end Go.Proofs.Ytoadmpochaeohaa
end
