/-
  Reference 14: where a configuration leads: operations 8.
-/
import Derived.Test.YtoadmpochaeohaaPa23
import Derived.StillTailTactics
section
set_option linter.unusedVariables false
set_option linter.unusedSimpArgs false
set_option maxRecDepth 100000
namespace Go.Proofs.Ytoadmpochaeohaa
open Go.RowKit

set_option maxHeartbeats 8000000 in
theorem next8 (bX : Nat) (A : Option Addr) (n cp gr co : Nat) (fo : Bool) (ins : List Ins) (line : ByteArray) (bR : Nat) (sv mv : Value) (s : CA) (c : RC) (i : Ins) (E D : Nat → Prop) (w : World) (hP : PlM w E bX A n cp gr co fo ins line bR sv mv) (hC : CRd w D s gr co c) (hR : RW ins line.size c) (hi : ins[c.pc]? = some i) (f : FineI ins.length gr co c.pc i) (hgr : gr ≤ 30) (hco : co ≤ 40) (hni : ins.length ≤ 40000) (hN : line.size ≤ 1000000) (hop : i.op = 8) :
    Calls Try.prog 50 #[.pointer (some ⟨bX, 0, none⟩), .agg (s.cells gr co c.pc c.at_).toArray] w fun e w' => ∃ v, e = .returned v ∧ CfL w' (fun q => w.heap.size ≤ q) (fun q => D q ∨ w.heap.size ≤ q) gr co v (nextR ins fo line.toList (refsN ins gr) c) ∧ Frm (fun _ => False) w w' := by
  obtain ⟨kn, hkn0⟩ := Int.eq_ofNat_of_zero_le (f.g (by simp [hop])).1
  have hkn : kn < gr := by have := (f.g (by simp [hop])).2; omega
  obtain ⟨cs, hcs⟩ : ∃ cs, nextR ins fo line.toList (refsN ins gr) c = cs := ⟨_, rfl⟩
  rw [hcs]
  have hcs2 := hcs
  unfold nextR at hcs2
  rw [hi] at hcs2
  simp only [hop] at hcs2
  have hlb : line.toList.length = line.size := by rw [ByteArray.toList_eq]; simp
  have hcl := hC.len
  obtain ⟨a1, a2, a3, a4, a5, c1, c2, c3, c4, c5⟩ := s
  obtain ⟨pc, at_, began, frm, til, turns, last⟩ := c
  obtain ⟨iop, ix, iy, i_n, imn, imx, is0, is1, is2, is3⟩ := i
  simp only [CA.cells] at *
  subst hop hkn0
  have HCS := Lib.hid (⟨hcs2, hlb⟩ : _ ∧ _)
  have HRW := Lib.hid hR
  have HFI := Lib.hid f
  have HCL := Lib.hid hcl
  have hatN : at_ ≤ line.size := hR.at_
  have hpcn : pc < n := by have := hR.pc; have h2 := hP.rd.len; rw [flatI_len] at h2; simp only at this; omega
  have hpcb : pc ≤ 40000 := by have := hR.pc; simp only at this; omega
  obtain ⟨pc1, hpc1⟩ : ∃ p, pc + 1 = p := ⟨_, rfl⟩
  have hwp : IntKind.i64.wrap ((pc : Int) + 1) = (pc1 : Int) := by rw [IntWalk.i64_in _ (by omega)]; omega
  have HPC := Lib.hid hpc1
  clear hcs hcs2 hlb hR f hcl hpc1
  have hX := Blk.new w [.int .i64 pc, .int .i64 at_, .slice a1 gr c1, .slice a2 gr c2, .slice a3 gr c3, .slice a4 co c4, .slice a5 co c5] 114
  have hf0 : Frm (fun _ => False) w (w.alloc (.cells #[.int .i64 pc, .int .i64 at_, .slice a1 gr c1, .slice a2 gr c2, .slice a3 gr c3, .slice a4 co c4, .slice a5 co c5] 114)) := (Frm.refl _ _).alloc _
  have hC1 := hC.low.frm hf0 (fun _ _ h => h)
  have hP1 := hP.low.frm hf0 (fun h => h) (fun _ _ h => h) (fun h => h)
  clear hP hC
  go_enter Try.func50, Try.ntmps50
  go_upto_region 1 with fail
  generalize w.alloc (.cells #[.int .i64 pc, .int .i64 at_, .slice a1 gr c1, .slice a2 gr c2, .slice a3 gr c3, .slice a4 co c4, .slice a5 co c5] 114) = w1 at *
  obtain ⟨b3, hb3⟩ : ∃ b, w.heap.size = b := ⟨_, rfl⟩
  simp only [hb3] at hX hC1 hP1 ⊢
  have HB := Lib.hid hb3
  clear hb3
  obtain ⟨⟨x0, x1, x2, x3, x4, x5, x6⟩, lx⟩ := blk7 hX
  obtain ⟨pb, po, rfl, hpb, hpi⟩ := hP1.rd.ins pc _ hi
  have i0 := hpi 0 _ rfl
  have i1 := hpi 1 _ rfl
  have i2 := hpi 2 _ rfl
  have i3 := hpi 3 _ rfl
  have i4 := hpi 4 _ rfl
  have i5 := hpi 5 _ rfl
  have i6 := hpi 6 _ rfl
  have i7 := hpi 7 _ rfl
  have i8 := hpi 8 _ rfl
  have i9 := hpi 9 _ rfl
  rw [Nat.add_zero] at i0
  have u0 := hP1.obj.cell 0
  simp only [List.getElem?_cons_zero, List.getElem?_cons_succ] at u0
  have lu := hP1.obj.lt
  have HI := Lib.hid hi
  clear hpi hi
  go_cut [5] from 12 to 20 (fun v wx => ∃ b5, v = .pointer (some ⟨b5, 0, none⟩) ∧ Blk wx b5 [.int .i64 8, .int .i64 ix, .int .i64 iy, .int .i64 kn, .int .i64 imn, .int .i64 imx, .int .u64 is0, .int .u64 is1, .int .u64 is2, .int .u64 is3] 39 ∧ Frm (fun _ => False) w1 wx ∧ w1.heap.size ≤ b5)
  case first =>
    go_wp2_with fail
    go_region
    all_goals
      first
      | (go_wp2_with fail; go_meet; exact ⟨_, rfl, (Blk.new w1 [.int .i64 8, .int .i64 ix, .int .i64 iy, .int .i64 kn, .int .i64 imn, .int .i64 imx, .int .u64 is0, .int .u64 is1, .int .u64 is2, .int .u64 is3] 39).drew, ((Frm.refl _ w1).alloc _).drew, Nat.le_refl _⟩)
      | (go_wp2_with fail; go_meet; exact ⟨_, rfl, Blk.new w1.drew [.int .i64 8, .int .i64 ix, .int .i64 iy, .int .i64 kn, .int .i64 imn, .int .i64 imx, .int .u64 is0, .int .u64 is1, .int .u64 is2, .int .u64 is3] 39, ((Frm.refl _ w1).drew).alloc _, Nat.le_refl _⟩)
  case rest =>
    obtain ⟨b5, rfl, hY, hf1, hb5⟩ := hcut
    obtain ⟨w2, hw2⟩ : ∃ w2, w2 = wc := ⟨_, rfl⟩
    subst hw2
    have hX2 := hX.frm hf1 (fun h => h)
    have hP2 := hP1.frm hf1 (fun h => h) (fun _ _ h => h) (fun h => h)
    have hC2 := hC1.frm hf1 (fun _ _ h => h)
    have hf2 := hf0.trans hf1
    have hz1 := hf1.size
    have hb3l : b3 < w1.heap.size := lx
    have hXl : bX < w1.heap.size := lu
    have hbRl : bR < w1.heap.size := hP1.refs.lt
    clear x0 x1 x2 x3 x4 x5 x6 lx i0 i1 i2 i3 i4 i5 i6 i7 i8 i9 u0 lu hX hP1 hC1 hf0 hf1 hpb
    obtain ⟨⟨x0, x1, x2, x3, x4, x5, x6⟩, lx⟩ := blk7 hX2
    have hO := Blk.new w2 [.int .i64 pc, .int .i64 at_, .slice a1 gr c1, .slice a2 gr c2, .slice a3 gr c3, .slice a4 co c4, .slice a5 co c5] 114
    have hfo : Frm (fun _ => False) w2 (w2.alloc (.cells #[.int .i64 pc, .int .i64 at_, .slice a1 gr c1, .slice a2 gr c2, .slice a3 gr c3, .slice a4 co c4, .slice a5 co c5] 114)) := (Frm.refl _ _).alloc _
    have hX3 := hX2.frm hfo (fun h => h)
    have hY3 := hY.frm hfo (fun h => h)
    have hP3 := hP2.frm hfo (fun h => h) (fun _ _ h => h) (fun h => h)
    have hC3 := hC2.frm hfo (fun _ _ h => h)
    have hf3 := hf2.trans hfo
    go_upto_region 3 with fail
    clear x0 x1 x2 x3 x4 x5 x6 lx
    have hYl := hY.lt
    generalize w2.alloc (.cells #[.int .i64 pc, .int .i64 at_, .slice a1 gr c1, .slice a2 gr c2, .slice a3 gr c3, .slice a4 co c4, .slice a5 co c5] 114) = w3 at *
    obtain ⟨b6, hb6⟩ : ∃ b, w2.heap.size = b := ⟨_, rfl⟩
    simp only [hb6] at hO hz1 hYl ⊢
    have n63 : b6 ≠ b3 := by omega
    have n65 : b6 ≠ b5 := by omega
    have n6X : b6 ≠ bX := by omega
    have n6R : b6 ≠ bR := by omega
    have n36 : b3 ≠ b6 := by omega
    have n56 : b5 ≠ b6 := by omega
    have nX6 : bX ≠ b6 := by omega
    have nR6 : bR ≠ b6 := by omega
    have HB6 : Hid (w.heap.size ≤ b6 ∧ b6 < w3.heap.size ∧ b3 ≤ b6) := Lib.hid ⟨by have := hf2.size; omega, hO.lt, by omega⟩
    clear hb6 hX2 hP2 hC2 hf2 hfo hY
    obtain ⟨⟨x0, x1, x2, x3, x4, x5, x6⟩, lx⟩ := blk7 hX3
    obtain ⟨⟨v0, v1, v2, v3, v4, v5, v6⟩, lv⟩ := blk7 hO
    have vf0 := hO.frozen 0
    have hset : Frm (fun q => q = b6) w3 (w3.setCell ⟨b6, 0, none⟩ (.int .i64 pc1)) := (Frm.refl _ w3).set b6 0 _ (fun _ => rfl)
    have hO4 := hO.setSame 0 (.int .i64 pc1)
    simp only [List.set_cons_zero] at hO4
    have hX4 := hX3.frm hset n36
    have hY4 := hY3.frm hset n56
    have hP4 := hP3.frm hset nX6 (fun q hq e => by have := hq.2; omega) nR6
    have hC4 := hC3.frm hset (fun q hq e => by have := hq.2; omega)
    have hf4 := hf3.then hset (fun q hq hl => by have : q = b6 := hq; have := HB6.out.1; omega)
    have hsz4 : w3.heap.size ≤ (w3.setCell ⟨b6, 0, none⟩ (.int .i64 pc1)).heap.size := hset.size
    go_upto_region 4 with fail
    clear x0 x1 x2 x3 x4 x5 x6 lx v0 v1 v2 v3 v4 v5 v6 lv vf0 hX3 hY3 hP3 hC3 hf3 hset hO
    generalize w3.setCell ⟨b6, 0, none⟩ (.int .i64 pc1) = w4 at *
    obtain ⟨⟨x0, x1, x2, x3, x4, x5, x6⟩, lx⟩ := blk7 hX4
    obtain ⟨⟨v0, v1, v2, v3, v4, v5, v6⟩, lv⟩ := blk7 hO4
    obtain ⟨⟨y0, y1, y2, y3, y4, y5, y6, y7, y8, y9⟩, ly⟩ := blk10 hY4
    have u4 := hP4.obj.cell 4
    have u5 := hP4.obj.cell 5
    have u0 := hP4.obj.cell 0
    have u3 := hP4.obj.cell 3
    simp only [List.getElem?_cons_zero, List.getElem?_cons_succ] at u0 u3 u4 u5
    have lu := hP4.obj.lt
    obtain ⟨z1, hz1⟩ : ∃ z, frm[kn]? = some z := ⟨_, List.getElem?_eq_getElem (by have := HCL.out.2.1; omega)⟩
    obtain ⟨z2, hz2⟩ : ∃ z, til[kn]? = some z := ⟨_, List.getElem?_eq_getElem (by have := HCL.out.2.2.1; omega)⟩
    have hzb := HRW.out.f z1 (List.mem_of_getElem? hz1)
    have hzt := HRW.out.t z2 (List.mem_of_getElem? hz2)
    have hft := HRW.out.ft kn z1 z2 hz1 hz2
    simp only at hzb hzt
    have hg1 : frm.getD kn (-1) = z1 := getD_of hz1
    have hg2 : til.getD kn (-1) = z2 := getD_of hz2
    have HZ := Lib.hid (⟨hz1, hz2, hg1, hg2⟩ : _ ∧ _ ∧ _ ∧ _)
    have hcs8 : cs = (if z1 < 0 ∨ (line.toList.length : Int) - at_ < z2 - z1 then [] else if sameS fo line.toList z1.toNat at_ (z2 - z1).toNat then [(⟨pc + 1, at_ + (z2 - z1).toNat, began, frm, til, turns, last⟩ : RC)] else []) := by
      rw [show cs = _ from HCS.out.1.symm]
      simp only [Int.toNat_natCast, hg1, hg2]
      rfl
    rw [HCS.out.2] at hcs8
    have HC8 := Lib.hid hcs8
    have hw1 : IntKind.i64.wrap (z2 - z1) = z2 - z1 := IntWalk.i64_in _ (by omega)
    have hw2 : IntKind.i64.wrap ((line.size : Int) - at_) = (line.size : Int) - at_ := IntWalk.i64_in _ (by omega)
    obtain ⟨bf, of_, z1', hA2, hbf, hz1', hcf⟩ := hC4.r2.cell1 kn hkn
    obtain ⟨bt, ot, z2', hA3, hbt, hz2', hct⟩ := hC4.r3.cell1 kn hkn
    rw [HZ.out.1] at hz1'
    rw [HZ.out.2.1] at hz2'
    cases hz1'
    cases hz2'
    have hA2' : a2 = some ⟨bf, of_, none⟩ := hA2
    have hA3' : a3 = some ⟨bt, ot, none⟩ := hA3
    rw [hA2'] at x3
    rw [hA3'] at x4
    have HA := Lib.hid (⟨hA2', hA3'⟩ : _ ∧ _)
    clear hz1 hz2 hg1 hg2 hcs8 hA2 hA2' hA3 hA3'
    go_wp2_with fail
    go_quiet (fail)
    have hdr : Frm (fun _ => False) w4 (w4.drewN nq) := (Frm.refl _ w4).drewN nq
    have hO5 := hO4.drewN nq
    have hX5 := hX4.drewN nq
    have hY5 := hY4.drewN nq
    have hC5 := hC4.frm hdr (fun _ _ h => h)
    have hP5 := hP4.frm hdr (fun h => h) (fun _ _ h => h) (fun h => h)
    have hf5 := hf4.trans hdr
    clear x0 x1 x2 x3 x4 x5 x6 lx v0 v1 v2 v3 v4 v5 v6 lv y0 y1 y2 y3 y4 y5 y6 y7 y8 y9 ly hO4 hX4 hY4 hC4 hP4 hf4 hdr u0 u3 u4 u5 lu hcf hct hbf hbt
    generalize w4.drewN nq = w5 at *
    obtain ⟨⟨x0, x1, x2, x3, x4, x5, x6⟩, lx⟩ := blk7 hX5
    obtain ⟨⟨v0, v1, v2, v3, v4, v5, v6⟩, lv⟩ := blk7 hO5
    obtain ⟨⟨y0, y1, y2, y3, y4, y5, y6, y7, y8, y9⟩, ly⟩ := blk10 hY5
    rw [HA.out.1] at x3
    rw [HA.out.2] at x4
    have u4 := hP5.obj.cell 4
    have u0 := hP5.obj.cell 0
    have u3 := hP5.obj.cell 3
    simp only [List.getElem?_cons_zero, List.getElem?_cons_succ] at u0 u3 u4
    have lu := hP5.obj.lt
    obtain ⟨hcf, hbf⟩ : World.cell? w5 ⟨bf, of_ + kn, none⟩ = some (.int .i64 z1) ∧ bf < w5.heap.size := by
      have h2 := hC5.r2
      simp only [HA.out.1] at h2
      obtain ⟨b', o', z', e1, e2, e3, e4⟩ := h2.cell1 kn hkn
      cases e1
      rw [HZ.out.1] at e3
      cases e3
      exact ⟨e4, e2⟩
    by_cases hneg : z1 < 0
    · have d1 : decide (z1 < 0) = true := decide_eq_true hneg
      have HNG := Lib.hid hneg
      clear hneg
      go_wp2_with fail
      go_quiet (fail)
      have hf6 := hf5.drewN nq
      clear x0 x1 x2 x3 x4 x5 x6 lx v0 v1 v2 v3 v4 v5 v6 lv y0 y1 y2 y3 y4 y5 y6 y7 y8 y9 ly u0 u3 u4 lu hcf hbf
      generalize w5.drewN nq = w6 at *
      have HR : Hid (CfL w6 (fun q => w.heap.size ≤ q) (fun q => D q ∨ w.heap.size ≤ q) gr co (.slice none 0 0) cs ∧ Frm (fun _ => False) w w6) := Lib.hid (by
        have hcs : cs = [] := by
          rw [HC8.out, if_pos (.inl HNG.out)]
        rw [hcs]
        exact ⟨CfL.nil, hf6⟩)
      go_wp2_with fail
      go_ret
      exact ⟨_, rfl, HR.out⟩
    · have d1 : decide (z1 < 0) = false := decide_eq_false hneg
      by_cases hlong : (line.size : Int) - at_ < z2 - z1
      · have d2 : decide ((line.size : Int) - at_ < z2 - z1) = true := decide_eq_true hlong
        have HNG := Lib.hid hlong
        clear hlong
        go_wp2_with fail
        go_quiet (fail)
        have hf6 := hf5.drewN nq
        clear x0 x1 x2 x3 x4 x5 x6 lx v0 v1 v2 v3 v4 v5 v6 lv y0 y1 y2 y3 y4 y5 y6 y7 y8 y9 ly u0 u3 u4 lu hcf hbf
        generalize w5.drewN nq = w6 at *
        have HR : Hid (CfL w6 (fun q => w.heap.size ≤ q) (fun q => D q ∨ w.heap.size ≤ q) gr co (.slice none 0 0) cs ∧ Frm (fun _ => False) w w6) := Lib.hid (by
          have hcs : cs = [] := by
            rw [HC8.out, if_pos (.inr HNG.out)]
          rw [hcs]
          exact ⟨CfL.nil, hf6⟩)
        go_wp2_with fail
        go_ret
        exact ⟨_, rfl, HR.out⟩
      · have d2 : decide ((line.size : Int) - at_ < z2 - z1) = false := decide_eq_false hlong
        obtain ⟨fn, rfl⟩ := Int.eq_ofNat_of_zero_le (Int.not_lt.1 hneg)
        obtain ⟨M, hM⟩ : ∃ M : Nat, z2 - (fn : Int) = M := ⟨(z2 - fn).toNat, by have := hft (by omega); omega⟩
        have hcs9 : cs = (if sameS fo line.toList fn at_ M then [(⟨pc + 1, at_ + M, began, frm, til, turns, last⟩ : RC)] else []) := by
          rw [HC8.out, if_neg (by rintro (h | h); exact hneg h; exact hlong h), hM]; rfl
        have HC9 := Lib.hid hcs9
        have d3 : decide ((line.size : Int) - at_ < (M : Int)) = false := decide_eq_false (by omega)
        have HBD : Hid (fn + M ≤ line.size ∧ at_ + M ≤ line.size) := Lib.hid ⟨by omega, by omega⟩
        go_wp2_with fail
        go_quiet (fail)
        have hdr : Frm (fun _ => False) w5 (w5.drewN nq) := (Frm.refl _ w5).drewN nq
        have hO6 := hO5.drewN nq
        have hX6 := hX5.drewN nq
        have hY6 := hY5.drewN nq
        have hC6 := hC5.frm hdr (fun _ _ h => h)
        have hP6 := hP5.frm hdr (fun h => h) (fun _ _ h => h) (fun h => h)
        have hf6 := hf5.trans hdr
        clear x0 x1 x2 x3 x4 x5 x6 lx v0 v1 v2 v3 v4 v5 v6 lv y0 y1 y2 y3 y4 y5 y6 y7 y8 y9 ly hO5 hX5 hY5 hC5 hP5 hf5 hdr u0 u3 u4 lu hcf hbf hw1 hw2 hcs9
        generalize w5.drewN nq = w6 at *
        have HM := Lib.hid hM
        clear hneg hlong hzb hzt hft
        go_wp2_with fail
        clear d1 d2 d3 hM
        go_loopw [10] (fun i wr => ∃ k : Nat, i = .int .i64 k ∧ k ≤ M ∧ Frm (fun _ => False) w6 wr ∧ Hid (sameS fo line.toList fn at_ k = true)) (fun i _ => M - (intOf i).toNat)
        case atStart => exact ⟨0, rfl, Nat.zero_le _, Frm.refl _ _, Lib.hid rfl⟩
        case round =>
          obtain ⟨k, rfl, hk, hfr, hsm⟩ := hrel
          have hO7 := hO6.frm hfr (fun h => h)
          have hX7 := hX6.frm hfr (fun h => h)
          have hY7 := hY6.frm hfr (fun h => h)
          have hC7 := hC6.frm hfr (fun _ _ h => h)
          have hP7 := hP6.frm hfr (fun h => h) (fun _ _ h => h) (fun h => h)
          have hf7 := hf6.trans hfr
          clear hf6
          obtain ⟨w7, hwn⟩ : ∃ w, w = wr := ⟨_, rfl⟩
          subst hwn
          obtain ⟨⟨x0, x1, x2, x3, x4, x5, x6⟩, lx⟩ := blk7 hX7
          obtain ⟨⟨v0, v1, v2, v3, v4, v5, v6⟩, lv⟩ := blk7 hO7
          obtain ⟨⟨y0, y1, y2, y3, y4, y5, y6, y7, y8, y9⟩, ly⟩ := blk10 hY7
          rw [HA.out.1] at x3
          rw [HA.out.2] at x4
          have u4 := hP7.obj.cell 4
          have u0 := hP7.obj.cell 0
          have u3 := hP7.obj.cell 3
          simp only [List.getElem?_cons_zero, List.getElem?_cons_succ] at u0 u3 u4
          have lu := hP7.obj.lt
          obtain ⟨hcf, hbf⟩ : World.cell? w7 ⟨bf, of_ + kn, none⟩ = some (.int .i64 fn) ∧ bf < w7.heap.size := by
            have h2 := hC7.r2
            simp only [HA.out.1] at h2
            obtain ⟨b', o', z', e1, e2, e3, e4⟩ := h2.cell1 kn hkn
            cases e1
            rw [HZ.out.1] at e3
            cases e3
            exact ⟨e4, e2⟩
          by_cases hkM : k < M
          · have h1 : fn + k < line.size := by have := HBD.out; omega
            have h2 : at_ + k < line.size := by have := HBD.out; omega
            have HSS := Lib.hid (sameS_succ h1 h2 hsm.out)
            have HNO : Hid (sameS fo line.toList fn at_ (k + 1) = false → cs = []) := Lib.hid fun h => by
              rw [HC9.out, if_neg (fun h2 => by rw [sameS_le (k := k + 1) (by omega) h2] at h; cases h)]
            have HAL := Lib.hid (fun w => alikeC (line[fn + k]'h1) (line[at_ + k]'h2) fo w)
            obtain ⟨al, hal⟩ : ∃ al, (line[fn + k]'h1 == line[at_ + k]'h2 || (fo && lowS (line[fn + k]'h1) == lowS (line[at_ + k]'h2))) = al := ⟨_, rfl⟩
            rw [hal] at HAL HSS
            have hw3 : IntKind.i64.wrap ((fn : Int) + k) = (fn : Int) + k := IntWalk.i64_in _ (by omega)
            have hw4 : IntKind.i64.wrap ((at_ : Int) + k) = (at_ : Int) + k := IntWalk.i64_in _ (by omega)
            have i1 : (0 : Int) ≤ (fn : Int) + k := by omega
            have i2 : (fn : Int) + k < (line.size : Int) := by omega
            have i3 : (0 : Int) ≤ (at_ : Int) + k := by omega
            have i4 : (at_ : Int) + k < (line.size : Int) := by omega
            have n1 : ((fn : Int) + k).toNat = fn + k := by omega
            have n2 : ((at_ : Int) + k).toNat = at_ + k := by omega
            have hwk : IntKind.i64.wrap ((k : Int) + 1) = ((k + 1 : Nat) : Int) := by rw [IntWalk.i64_in _ (by omega)]; omega
            clear hal
            go_upto_region 40 with fail
            go_cut [11] from 181 to 208 (fun v wx => v = .bool al ∧ Frm (fun _ => False) w7 wx)
            case first =>
              have HAL2 : ∀ w, Calls Try.prog 70 #[.int .u8 (line[fn + k]'h1).toNat, .int .u8 (line[at_ + k]'h2).toNat, .bool fo] w fun e w' => e = .returned (.bool al) ∧ w' = w := fun w => (HAL.out w).mono fun e w' h => ⟨h.1, h.2.symm⟩
              have HAL3 := Lib.hid HAL2
              clear HAL2 HAL
              go_wp2_with fail
              go_quiet ((go_at_call 70; refine Calls.quiet_of_same (HAL3.out _)))
              go_wp2_with fail
              go_meet
              exact ⟨rfl, (Frm.refl _ _).drewN nq⟩
            case rest =>
              obtain ⟨rfl, hfw⟩ := hcut
              have hf8 := hf7.trans hfw
              have hfr8 := hfr.trans hfw
              clear x0 x1 x2 x3 x4 x5 x6 lx v0 v1 v2 v3 v4 v5 v6 lv y0 y1 y2 y3 y4 y5 y6 y7 y8 y9 ly hO7 hX7 hY7 hC7 hP7 hf7 u0 u3 u4 lu hcf hbf HAL
              cases al with
              | true =>
                go_wp2_with fail
                go_roundw
                case measure => simp [intOf] <;> omega
                case rel => exact ⟨k + 1, by go_num, by omega, hfr8, Lib.hid HSS.out⟩
              | false =>
                have hcn := HNO.out HSS.out
                have HR : Hid (CfL wc (fun q => w.heap.size ≤ q) (fun q => D q ∨ w.heap.size ≤ q) gr co (.slice none 0 0) cs ∧ Frm (fun _ => False) w wc) := Lib.hid (by rw [hcn]; exact ⟨CfL.nil, hf8⟩)
                go_wp2_with fail
                go_ret
                exact ⟨_, rfl, HR.out⟩
          · obtain rfl : k = M := by omega
            have hsmo := hsm.out
            obtain ⟨at2, hat2⟩ : ∃ a, at_ + k = a := ⟨_, rfl⟩
            have hwa : IntKind.i64.wrap ((at_ : Int) + k) = (at2 : Int) := by rw [IntWalk.i64_in _ (by have := HBD.out; omega)]; omega
            have HAT := Lib.hid hat2
            clear hat2
            have vf := hO7.frozen 1
            have hset : Frm (fun q => q = b6) w7 (w7.setCell ⟨b6, 1, none⟩ (.int .i64 at2)) := (Frm.refl _ w7).set b6 1 _ (fun _ => rfl)
            have hO8 := hO7.setSame 1 (.int .i64 at2)
            simp only [List.set_cons_zero, List.set_cons_succ] at hO8
            have hC8 := hC7.frm hset (fun q hq e => by have := hq.2; have := HB6.out; omega)
            have hf8 := hf7.then hset (fun q hq hl => by have : q = b6 := hq; have := HB6.out.1; omega)
            go_upto_region 51 with fail
            clear x0 x1 x2 x3 x4 x5 x6 lx v0 v1 v2 v3 v4 v5 v6 lv y0 y1 y2 y3 y4 y5 y6 y7 y8 y9 ly vf hset hO7 hX7 hY7 hC7 hP7 hf7 u0 u3 u4 lu hcf hbf
            generalize w7.setCell ⟨b6, 1, none⟩ (.int .i64 at2) = w8 at *
            obtain ⟨⟨v0, v1, v2, v3, v4, v5, v6⟩, lv⟩ := blk7 hO8
            have HR : Hid (CfL (w8.alloc (.cells #[.int .i64 pc1, .int .i64 at2, .slice a1 gr c1, .slice a2 gr c2, .slice a3 gr c3, .slice a4 co c4, .slice a5 co c5] 114)) (fun q => w.heap.size ≤ q) (fun q => D q ∨ w.heap.size ≤ q) gr co (.slice (some ⟨w8.heap.size, 0, none⟩) 1 1) cs ∧ Frm (fun _ => False) w (w8.alloc (.cells #[.int .i64 pc1, .int .i64 at2, .slice a1 gr c1, .slice a2 gr c2, .slice a3 gr c3, .slice a4 co c4, .slice a5 co c5] 114))) := Lib.hid (by
              have hcs : cs = [⟨pc1, at2, began, frm, til, turns, last⟩] := by
                try rw [← HPC.out]
                rw [HC9.out, if_pos hsmo, ← HAT.out]
              rw [hcs]
              have hc := hC8.mono (E := fun q => D q ∨ w.heap.size ≤ q) (fun q h _ => .inl h.1)
              exact finC ⟨a1, a2, a3, a4, a5, c1, c2, c3, c4, c5⟩ ⟨pc1, at2, began, frm, til, turns, last⟩ ⟨hc.r1, hc.r2, hc.r3, hc.r4, hc.r5⟩ hf8)
            go_wp2_with fail
            go_ret
            exact ⟨_, rfl, HR.out⟩
end Go.Proofs.Ytoadmpochaeohaa
end
