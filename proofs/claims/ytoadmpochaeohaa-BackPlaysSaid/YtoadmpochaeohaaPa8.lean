/-
  Layer 20: on, walked: operation 1.
-/
import Derived.Test.YtoadmpochaeohaaPa7
import Derived.Test.YtoadmpochaeohaaPa5
section
set_option linter.unusedVariables false
set_option linter.unusedSimpArgs false
set_option maxRecDepth 100000
namespace Go.Proofs.Ytoadmpochaeohaa
open Go.RowKit

set_option maxHeartbeats 16000000 in
theorem on1M {E D : Nat → Prop} {b g bm : Nat} {s : Stt} {m : Mc} {line : ByteArray} {pile : List Fr} {seen : List Key} {steps kept : Nat} {parts : List Pt} {turns : List Tn} {A B : Option Addr} {n cA k d : Nat} {w : World} (pc at_ : Nat) (i : Ins)
    (hM : MM w E D b g bm s m line pile seen steps kept) (hc : CfR w D parts turns A n cA B k d) (hb : pile.length ≤ 1073741000) (hi : m.ins[pc]? = some i) (hpc : pc ≤ 40000) (hat : at_ ≤ line.size) (hls : line.size ≤ 1048576) (hop : i.op = 1) (hwf : True) :
    Calls Try.prog 56 #[.pointer (some ⟨b, 0, none⟩), .agg #[.int .i64 pc, .int .i64 at_, .slice A n cA, .slice B k d]] w fun e w' => e = .returned (.tuple #[]) ∧ MX w E D w' b g bm s m line ((onS m line.toList ⟨pc, at_, parts, turns⟩).reverse.map .look ++ pile) seen steps kept := by
  have hlen : line.toList.length = line.size := by rw [ByteArray.toList_eq]; simp
  obtain ⟨iop, ix, iy, i_n, imn, imx, is0, is1, is2, is3⟩ := i
  simp only at hop hwf
  subst hop
  obtain ⟨NX, hNX⟩ : ∃ NX, (onS m line.toList ⟨pc, at_, parts, turns⟩).reverse.map Fr.look ++ pile = NX := ⟨_, rfl⟩
  rw [hNX]
  have HNX := Lib.hid hNX
  clear hNX
  have HLEN := Lib.hid hlen
  clear hlen
  have HI := Lib.hid hi
  have hX := Blk.new w [.int .i64 pc, .int .i64 at_, .slice A n cA, .slice B k d] 129
  have hf0 : Frm (fun _ => False) w (w.alloc (.cells #[.int .i64 pc, .int .i64 at_, .slice A n cA, .slice B k d] 129)) := (Frm.refl _ w).alloc _
  obtain ⟨E1, D1, hL, hM0, hC0, hEl, hDl⟩ := hM.start hc
  have HDL := Lib.hid hDl
  have hM1 := hM0.frm hf0
  have hC1 := hC0.frm hf0 (fun _ _ h => h)
  have hL1 := hL.quiet hf0
  have HEL := Lib.hid hEl
  obtain ⟨PA, pn, pcap, SA, sn, sc, MA, mn, mc, LA, ln, lc, gr, co⟩ := s
  have hPI := hM1.sta.ins
  simp only at hPI
  obtain ⟨pb, po, rfl, hpb, hpi⟩ := hPI.ins pc _ hi
  have i0 := hpi 0 _ rfl
  have i1 := hpi 1 _ rfl
  have i2 := hpi 2 _ rfl
  have i3 := hpi 3 _ rfl
  have i4 := hpi 4 _ rfl
  have i5 := hpi 5 _ rfl
  have i6 := hpi 6 _ rfl
  have i7 := hpi 7 _ rfl
  have i8 := hpi 8 _ rfl
  have i9 := hpi 9 _ rfl
  rw [Nat.add_zero] at i0
  have hpn : pc < pn := by
    have h1 := hPI.len
    rw [flatI_len] at h1
    have h2 := (List.getElem?_eq_some_iff.1 hi).1
    omega
  have b0 := hM1.obj.cell 0
  simp only [cellsB, List.getElem?_cons_zero, List.getElem?_cons_succ] at b0
  have lb := hM1.obj.lt
  have HWS : Hid (w.heap.size < (w.alloc (.cells #[.int .i64 pc, .int .i64 at_, .slice A n cA, .slice B k d] 129)).heap.size) := Lib.hid hX.lt
  clear hi hpi hPI hM hc hM0 hC0 hL hEl hDl
  go_enter Try.func56, Try.ntmps56
  go_upto_region 1 with fail
  generalize w.alloc (.cells #[.int .i64 pc, .int .i64 at_, .slice A n cA, .slice B k d] 129) = w1 at *
  generalize hbX : w.heap.size = bX at *
  have HBX := Lib.hid hbX
  clear hbX
  obtain ⟨x0, x1, x2, x3, y0, y1, y2, y3, lx⟩ := blk4 hX
  go_wp2_with fail
  go_region
  have hX2 := (hX.alloc (.cells #[.int .i64 1, .int .i64 ix, .int .i64 iy, .int .i64 i_n, .int .i64 imn, .int .i64 imx, .int .u64 is0, .int .u64 is1, .int .u64 is2, .int .u64 is3] 39)).drew
  have hI2 := (Blk.new w1 [.int .i64 1, .int .i64 ix, .int .i64 iy, .int .i64 i_n, .int .i64 imn, .int .i64 imx, .int .u64 is0, .int .u64 is1, .int .u64 is2, .int .u64 is3] 39).drew
  have hf12 : Frm (fun _ => False) w1 (w1.alloc (.cells #[.int .i64 1, .int .i64 ix, .int .i64 iy, .int .i64 i_n, .int .i64 imn, .int .i64 imx, .int .u64 is0, .int .u64 is1, .int .u64 is2, .int .u64 is3] 39)).drew := ((Frm.refl _ w1).alloc _).drew
  have HL2 := Lib.hid (hL1.quiet hf12)
  have hM2 := hM1.frm hf12
  have hC2 := hC1.frm hf12 (fun _ _ h => h)
  clear x0 x1 x2 x3 y0 y1 y2 y3 lx i0 i1 i2 i3 i4 i5 i6 i7 i8 i9 b0 lb hpb hM1 hC1 hX hf0 hf12 hL1
  generalize (w1.alloc (.cells #[.int .i64 1, .int .i64 ix, .int .i64 iy, .int .i64 i_n, .int .i64 imn, .int .i64 imx, .int .u64 is0, .int .u64 is1, .int .u64 is2, .int .u64 is3] 39)).drew = w2 at *
  obtain ⟨bI, hbI⟩ : ∃ bI, w1.heap.size = bI := ⟨_, rfl⟩
  simp only [hbI] at hI2 ⊢
  have HBI : Hid (bX < bI) := Lib.hid (by have := HWS.out; omega)
  have HEX : Hid (¬ E1 bX ∧ ¬ E1 bI) := Lib.hid ⟨fun h => by have := HEL.out _ h; omega, fun h => by have := HEL.out _ h; have := HBI.out; omega⟩
  have HSZ : Hid (bX < w2.heap.size) := Lib.hid (by have := HBI.out; have := hI2.lt; omega)
  clear hbI HWS
  have hwp : IntKind.i64.wrap ((pc : Int) + 1) = ((pc + 1 : Nat) : Int) := by rw [IntWalk.i64_in _ (by omega)]; omega
  obtain ⟨x0, x1, x2, x3, y0, y1, y2, y3, lx⟩ := blk4 hX2
  have j0 := hI2.cell 0
  have j1 := hI2.cell 1
  have j2 := hI2.cell 2
  have j3 := hI2.cell 3
  have j4 := hI2.cell 4
  have j5 := hI2.cell 5
  have j6 := hI2.cell 6
  have j7 := hI2.cell 7
  have j8 := hI2.cell 8
  have j9 := hI2.cell 9
  simp only [List.getElem?_cons_zero, List.getElem?_cons_succ] at j0 j1 j2 j3 j4 j5 j6 j7 j8 j9
  have li := hI2.lt
  have b5 := hM2.obj.cell 5
  have b10 := hM2.obj.cell 10
  simp only [cellsB, List.getElem?_cons_zero, List.getElem?_cons_succ] at b5 b10
  have lb := hM2.obj.lt
  have hM3 := hM2.frm ((Frm.refl _ w2).drew)
  have hC3 := hC2.frm ((Frm.refl _ w2).drew) (fun _ _ h => h)
  have HL3 := Lib.hid (HL2.out.quiet ((Frm.refl _ w2).drew))
  have HMC := Lib.hid (⟨hM3, hC3⟩ : _ ∧ _)
  clear hM3 hC3 hM2 hC2 b5
  by_cases h0 : at_ < line.size
  · obtain ⟨c, hcc⟩ : ∃ c, line[at_]'h0 = c := ⟨_, rfl⟩
    have hcl : line.toList[at_]? = some c := by rw [ByteArray.toList_eq, Array.getElem?_toList, Array.getElem?_eq_getElem h0]; exact congrArg some hcc
    have HCL := Lib.hid hcl
    have t1 : decide ((at_ : Int) < (line.size : Int)) = true := decide_eq_true (by omega)
    have i2 : (at_ : Int) < (line.size : Int) := by omega
    have HH := Lib.hid (hasB_ ⟨1, ix, iy, i_n, imn, imx, is0, is1, is2, is3⟩ c w2.drew)
    obtain ⟨r, hr⟩ : ∃ r, inB ⟨1, ix, iy, i_n, imn, imx, is0, is1, is2, is3⟩ c = r := ⟨_, rfl⟩
    rw [hr] at HH
    have HR := Lib.hid hr
    have HCC := Lib.hid hcc
    clear hr hcl hcc
    simp only at HH
    go_upto_region 4 with fail
    go_cut [39] from 20 to 39 (fun v wx => v = .bool r ∧ Frm (fun _ => False) w2.drew wx)
    case first =>
      go_wp2_with fail
      go_region_with (simp only [HCC.out]; go_at_call 74; refine HH.out.mono ?_; rintro e w3 ⟨rfl, hw3⟩)
      all_goals
        go_wp2_with fail
        go_meet
        subst hw3
        exact ⟨rfl, (Frm.refl _ _).alloc _⟩
    case rest =>
      obtain ⟨rfl, hf3⟩ := hcut
      generalize wc = w3 at *
      have hM3 := HMC.out.1.frm hf3
      have hC3 := HMC.out.2.frm hf3 (fun _ _ h => h)
      have HL3 := Lib.hid (HL3.out.quiet hf3)
      have hX3 := hX2.drew.frm hf3 (fun h => h)
      clear x0 x1 x2 x3 y0 y1 y2 y3 lx j0 j1 j2 j3 j4 j5 j6 j7 j8 j9 li b10 lb hX2 hI2
      obtain ⟨x0, x1, x2, x3, y0, y1, y2, y3, lx⟩ := blk4 hX3
      cases r with
      | true =>
        obtain ⟨a2, ha2⟩ : ∃ a2 : Nat, at_ + 1 = a2 := ⟨_, rfl⟩
        have hwa : IntKind.i64.wrap ((at_ : Int) + 1) = (a2 : Int) := by rw [IntWalk.i64_in _ (by omega)]; omega
        have HA2 := Lib.hid ha2
        clear ha2
        have hf4 : Frm (fun k => k = bX) w3 (w3.setCell ⟨bX, 1, none⟩ (.int .i64 (a2 : Int))) := (Frm.refl _ w3).set bX 1 _ (fun _ => rfl)
        have hM4 := hM3.frmS hf4 (fun q hq h => HEX.out.1 (h ▸ hq)) (fun q hq h => by have := HDL.out q hq; omega)
        have hC4 := hC3.frm hf4 (fun q hq h => by have := HDL.out q hq; omega)
        have HL4 := Lib.hid (HL3.out.quietS hf4 (fun q h => by have := HBX.out; omega))
        have hX4 := hX3.setSame 1 (.int .i64 (a2 : Int))
        simp only [List.set_cons_succ, List.set_cons_zero] at hX4
        clear hM3 hC3 hf4 HMC
        go_upto_region 6 with fail
        clear x0 x1 x2 x3 y0 y1 y2 y3 lx hwa
        generalize w3.setCell ⟨bX, 1, none⟩ (.int .i64 (a2 : Int)) = w4 at *
        obtain ⟨x0, x1, x2, x3, y0, y1, y2, y3, lx⟩ := blk4 hX4
        go_wp2_with fail
        refine (toM pc a2 (pc + 1) hM4 hC4 (by omega)).mono ?_
        rintro e w9 ⟨rfl, hM9, hf9⟩
        go_wp2_with fail
        go_end0
        refine ⟨rfl, (HL4.out.push hf9 (fun k h => h.1)).mx ?_⟩
        rw [← HNX.out]
        simpa [onS, HI.out, HCL.out, HR.out, HA2.out] using hM9
      | false =>
        go_wp2_with fail
        go_end0
        refine ⟨rfl, HL3.out.mx ?_⟩
        rw [← HNX.out]
        simpa [onS, HI.out, HCL.out, HR.out] using hM3
  · have hcl : line.toList[at_]? = none := List.getElem?_eq_none (by rw [HLEN.out]; omega)
    have t1 : decide ((at_ : Int) < (line.size : Int)) = false := decide_eq_false (by omega)
    have HCL := Lib.hid hcl
    clear hcl
    go_wp2_with fail
    go_region
    go_wp2_with fail
    go_end0
    refine ⟨rfl, HL3.out.mx ?_⟩
    rw [← HNX.out]
    simpa [onS, HI.out, HCL.out] using HMC.out.1
end Go.Proofs.Ytoadmpochaeohaa
end
