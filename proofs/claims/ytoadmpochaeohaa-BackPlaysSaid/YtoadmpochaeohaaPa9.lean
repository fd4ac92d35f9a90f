/-
  Layer 20: on, walked: operations 2, 3, 4, 5, 9, 11.
-/
import Derived.Test.YtoadmpochaeohaaPa7
import Derived.Test.YtoadmpochaeohaaPa5
section
set_option linter.unusedVariables false
set_option linter.unusedSimpArgs false
set_option maxRecDepth 100000
namespace Go.Proofs.Ytoadmpochaeohaa
open Go.RowKit

set_option maxHeartbeats 16000000 in
theorem on2M {E D : Nat → Prop} {b g bm : Nat} {s : Stt} {m : Mc} {line : ByteArray} {pile : List Fr} {seen : List Key} {steps kept : Nat} {parts : List Pt} {turns : List Tn} {A B : Option Addr} {n cA k d : Nat} {w : World} (pc at_ : Nat) (i : Ins)
    (hM : MM w E D b g bm s m line pile seen steps kept) (hc : CfR w D parts turns A n cA B k d) (hb : pile.length ≤ 1073741000) (hi : m.ins[pc]? = some i) (hpc : pc ≤ 40000) (hat : at_ ≤ line.size) (hls : line.size ≤ 1048576) (hop : i.op = 2) (hwf : 0 ≤ i.x ∧ 0 ≤ i.y) :
    Calls Try.prog 56 #[.pointer (some ⟨b, 0, none⟩), .agg #[.int .i64 pc, .int .i64 at_, .slice A n cA, .slice B k d]] w fun e w' => e = .returned (.tuple #[]) ∧ MX w E D w' b g bm s m line ((onS m line.toList ⟨pc, at_, parts, turns⟩).reverse.map .look ++ pile) seen steps kept := by
  have hlen : line.toList.length = line.size := by rw [ByteArray.toList_eq]; simp
  obtain ⟨iop, ix, iy, i_n, imn, imx, is0, is1, is2, is3⟩ := i
  simp only at hop hwf
  subst hop
  obtain ⟨q, rfl⟩ := Int.eq_ofNat_of_zero_le hwf.1
  obtain ⟨r, rfl⟩ := Int.eq_ofNat_of_zero_le hwf.2
  obtain ⟨NX, hNX⟩ : ∃ NX, (onS m line.toList ⟨pc, at_, parts, turns⟩).reverse.map Fr.look ++ pile = NX := ⟨_, rfl⟩
  rw [hNX]
  have HNX := Lib.hid hNX
  clear hNX
  have HLEN := Lib.hid hlen
  clear hlen
  have HI := Lib.hid hi
  have hX := Blk.new w [.int .i64 pc, .int .i64 at_, .slice A n cA, .slice B k d] 129
  have hf0 : Frm (fun _ => False) w (w.alloc (.cells #[.int .i64 pc, .int .i64 at_, .slice A n cA, .slice B k d] 129)) := (Frm.refl _ w).alloc _
  obtain ⟨E1, D1, hL, hM0, hC0, hEl, hDl⟩ := hM.start hc
  have HDL := Lib.hid hDl
  have hM1 := hM0.frm hf0
  have hC1 := hC0.frm hf0 (fun _ _ h => h)
  have hL1 := hL.quiet hf0
  have HEL := Lib.hid hEl
  obtain ⟨PA, pn, pcap, SA, sn, sc, MA, mn, mc, LA, ln, lc, gr, co⟩ := s
  have hPI := hM1.sta.ins
  simp only at hPI
  obtain ⟨pb, po, rfl, hpb, hpi⟩ := hPI.ins pc _ hi
  have i0 := hpi 0 _ rfl
  have i1 := hpi 1 _ rfl
  have i2 := hpi 2 _ rfl
  have i3 := hpi 3 _ rfl
  have i4 := hpi 4 _ rfl
  have i5 := hpi 5 _ rfl
  have i6 := hpi 6 _ rfl
  have i7 := hpi 7 _ rfl
  have i8 := hpi 8 _ rfl
  have i9 := hpi 9 _ rfl
  rw [Nat.add_zero] at i0
  have hpn : pc < pn := by
    have h1 := hPI.len
    rw [flatI_len] at h1
    have h2 := (List.getElem?_eq_some_iff.1 hi).1
    omega
  have b0 := hM1.obj.cell 0
  simp only [cellsB, List.getElem?_cons_zero, List.getElem?_cons_succ] at b0
  have lb := hM1.obj.lt
  have HWS : Hid (w.heap.size < (w.alloc (.cells #[.int .i64 pc, .int .i64 at_, .slice A n cA, .slice B k d] 129)).heap.size) := Lib.hid hX.lt
  clear hi hpi hPI hM hc hM0 hC0 hL hEl hDl
  go_enter Try.func56, Try.ntmps56
  go_upto_region 1 with fail
  generalize w.alloc (.cells #[.int .i64 pc, .int .i64 at_, .slice A n cA, .slice B k d] 129) = w1 at *
  generalize hbX : w.heap.size = bX at *
  have HBX := Lib.hid hbX
  clear hbX
  obtain ⟨x0, x1, x2, x3, y0, y1, y2, y3, lx⟩ := blk4 hX
  go_wp2_with fail
  go_region
  have hX2 := (hX.alloc (.cells #[.int .i64 2, .int .i64 (q : Int), .int .i64 (r : Int), .int .i64 i_n, .int .i64 imn, .int .i64 imx, .int .u64 is0, .int .u64 is1, .int .u64 is2, .int .u64 is3] 39)).drew
  have hI2 := (Blk.new w1 [.int .i64 2, .int .i64 (q : Int), .int .i64 (r : Int), .int .i64 i_n, .int .i64 imn, .int .i64 imx, .int .u64 is0, .int .u64 is1, .int .u64 is2, .int .u64 is3] 39).drew
  have hf12 : Frm (fun _ => False) w1 (w1.alloc (.cells #[.int .i64 2, .int .i64 (q : Int), .int .i64 (r : Int), .int .i64 i_n, .int .i64 imn, .int .i64 imx, .int .u64 is0, .int .u64 is1, .int .u64 is2, .int .u64 is3] 39)).drew := ((Frm.refl _ w1).alloc _).drew
  have HL2 := Lib.hid (hL1.quiet hf12)
  have hM2 := hM1.frm hf12
  have hC2 := hC1.frm hf12 (fun _ _ h => h)
  clear x0 x1 x2 x3 y0 y1 y2 y3 lx i0 i1 i2 i3 i4 i5 i6 i7 i8 i9 b0 lb hpb hM1 hC1 hX hf0 hf12 hL1
  generalize (w1.alloc (.cells #[.int .i64 2, .int .i64 (q : Int), .int .i64 (r : Int), .int .i64 i_n, .int .i64 imn, .int .i64 imx, .int .u64 is0, .int .u64 is1, .int .u64 is2, .int .u64 is3] 39)).drew = w2 at *
  obtain ⟨bI, hbI⟩ : ∃ bI, w1.heap.size = bI := ⟨_, rfl⟩
  simp only [hbI] at hI2 ⊢
  have HBI : Hid (bX < bI) := Lib.hid (by have := HWS.out; omega)
  have HEX : Hid (¬ E1 bX ∧ ¬ E1 bI) := Lib.hid ⟨fun h => by have := HEL.out _ h; omega, fun h => by have := HEL.out _ h; have := HBI.out; omega⟩
  have HSZ : Hid (bX < w2.heap.size) := Lib.hid (by have := HBI.out; have := hI2.lt; omega)
  clear hbI HWS
  have hwp : IntKind.i64.wrap ((pc : Int) + 1) = ((pc + 1 : Nat) : Int) := by rw [IntWalk.i64_in _ (by omega)]; omega
  obtain ⟨x0, x1, x2, x3, y0, y1, y2, y3, lx⟩ := blk4 hX2
  have j0 := hI2.cell 0
  have j1 := hI2.cell 1
  have j2 := hI2.cell 2
  have j3 := hI2.cell 3
  have j4 := hI2.cell 4
  have j5 := hI2.cell 5
  have j6 := hI2.cell 6
  have j7 := hI2.cell 7
  have j8 := hI2.cell 8
  have j9 := hI2.cell 9
  simp only [List.getElem?_cons_zero, List.getElem?_cons_succ] at j0 j1 j2 j3 j4 j5 j6 j7 j8 j9
  have li := hI2.lt
  go_wp2_with fail
  refine (toM pc at_ r hM2 hC2 (by omega)).mono ?_
  rintro e w8 ⟨rfl, hM8, hf8⟩
  have HL8 := Lib.hid (HL2.out.push hf8 (fun k h => h.1))
  have hX8 := hX2.frm hf8 (fun h => HEX.out.1 h.1)
  have hI8 := hI2.frm hf8 (fun h => HEX.out.2 h.1)
  have hC8 := (hC2.mono (G := fun k => D1 k ∧ k < w2.heap.size) (fun k h l => ⟨h, l⟩)).frm hf8 (fun k h e => hM2.apart k h.1 e.1)
  clear x0 x1 x2 x3 y0 y1 y2 y3 lx j0 j1 j2 j3 j4 j5 j6 j7 j8 j9 li
  obtain ⟨x0, x1, x2, x3, y0, y1, y2, y3, lx⟩ := blk4 hX8
  have j0 := hI8.cell 0
  have j1 := hI8.cell 1
  have j2 := hI8.cell 2
  simp only [List.getElem?_cons_zero, List.getElem?_cons_succ] at j0 j1 j2
  have li := hI8.lt
  go_wp2_with fail
  refine (toM pc at_ q hM8 hC8 (by first | omega | (simp only [List.length_cons]; omega))).mono ?_
  rintro e w9 ⟨rfl, hM9, hf9⟩
  go_wp2_with fail
  go_end0
  refine ⟨rfl, (HL8.out.push hf9 (fun k h => h.1)).mx ?_⟩
  rw [← HNX.out]
  simpa [onS, HI.out] using hM9

set_option maxHeartbeats 16000000 in
theorem on3M {E D : Nat → Prop} {b g bm : Nat} {s : Stt} {m : Mc} {line : ByteArray} {pile : List Fr} {seen : List Key} {steps kept : Nat} {parts : List Pt} {turns : List Tn} {A B : Option Addr} {n cA k d : Nat} {w : World} (pc at_ : Nat) (i : Ins)
    (hM : MM w E D b g bm s m line pile seen steps kept) (hc : CfR w D parts turns A n cA B k d) (hb : pile.length ≤ 1073741000) (hi : m.ins[pc]? = some i) (hpc : pc ≤ 40000) (hat : at_ ≤ line.size) (hls : line.size ≤ 1048576) (hop : i.op = 3) (hwf : 0 ≤ i.x) :
    Calls Try.prog 56 #[.pointer (some ⟨b, 0, none⟩), .agg #[.int .i64 pc, .int .i64 at_, .slice A n cA, .slice B k d]] w fun e w' => e = .returned (.tuple #[]) ∧ MX w E D w' b g bm s m line ((onS m line.toList ⟨pc, at_, parts, turns⟩).reverse.map .look ++ pile) seen steps kept := by
  have hlen : line.toList.length = line.size := by rw [ByteArray.toList_eq]; simp
  obtain ⟨iop, ix, iy, i_n, imn, imx, is0, is1, is2, is3⟩ := i
  simp only at hop hwf
  subst hop
  obtain ⟨q, rfl⟩ := Int.eq_ofNat_of_zero_le hwf
  obtain ⟨NX, hNX⟩ : ∃ NX, (onS m line.toList ⟨pc, at_, parts, turns⟩).reverse.map Fr.look ++ pile = NX := ⟨_, rfl⟩
  rw [hNX]
  have HNX := Lib.hid hNX
  clear hNX
  have HLEN := Lib.hid hlen
  clear hlen
  have HI := Lib.hid hi
  have hX := Blk.new w [.int .i64 pc, .int .i64 at_, .slice A n cA, .slice B k d] 129
  have hf0 : Frm (fun _ => False) w (w.alloc (.cells #[.int .i64 pc, .int .i64 at_, .slice A n cA, .slice B k d] 129)) := (Frm.refl _ w).alloc _
  obtain ⟨E1, D1, hL, hM0, hC0, hEl, hDl⟩ := hM.start hc
  have HDL := Lib.hid hDl
  have hM1 := hM0.frm hf0
  have hC1 := hC0.frm hf0 (fun _ _ h => h)
  have hL1 := hL.quiet hf0
  have HEL := Lib.hid hEl
  obtain ⟨PA, pn, pcap, SA, sn, sc, MA, mn, mc, LA, ln, lc, gr, co⟩ := s
  have hPI := hM1.sta.ins
  simp only at hPI
  obtain ⟨pb, po, rfl, hpb, hpi⟩ := hPI.ins pc _ hi
  have i0 := hpi 0 _ rfl
  have i1 := hpi 1 _ rfl
  have i2 := hpi 2 _ rfl
  have i3 := hpi 3 _ rfl
  have i4 := hpi 4 _ rfl
  have i5 := hpi 5 _ rfl
  have i6 := hpi 6 _ rfl
  have i7 := hpi 7 _ rfl
  have i8 := hpi 8 _ rfl
  have i9 := hpi 9 _ rfl
  rw [Nat.add_zero] at i0
  have hpn : pc < pn := by
    have h1 := hPI.len
    rw [flatI_len] at h1
    have h2 := (List.getElem?_eq_some_iff.1 hi).1
    omega
  have b0 := hM1.obj.cell 0
  simp only [cellsB, List.getElem?_cons_zero, List.getElem?_cons_succ] at b0
  have lb := hM1.obj.lt
  have HWS : Hid (w.heap.size < (w.alloc (.cells #[.int .i64 pc, .int .i64 at_, .slice A n cA, .slice B k d] 129)).heap.size) := Lib.hid hX.lt
  clear hi hpi hPI hM hc hM0 hC0 hL hEl hDl
  go_enter Try.func56, Try.ntmps56
  go_upto_region 1 with fail
  generalize w.alloc (.cells #[.int .i64 pc, .int .i64 at_, .slice A n cA, .slice B k d] 129) = w1 at *
  generalize hbX : w.heap.size = bX at *
  have HBX := Lib.hid hbX
  clear hbX
  obtain ⟨x0, x1, x2, x3, y0, y1, y2, y3, lx⟩ := blk4 hX
  go_wp2_with fail
  go_region
  have hX2 := (hX.alloc (.cells #[.int .i64 3, .int .i64 (q : Int), .int .i64 iy, .int .i64 i_n, .int .i64 imn, .int .i64 imx, .int .u64 is0, .int .u64 is1, .int .u64 is2, .int .u64 is3] 39)).drew
  have hI2 := (Blk.new w1 [.int .i64 3, .int .i64 (q : Int), .int .i64 iy, .int .i64 i_n, .int .i64 imn, .int .i64 imx, .int .u64 is0, .int .u64 is1, .int .u64 is2, .int .u64 is3] 39).drew
  have hf12 : Frm (fun _ => False) w1 (w1.alloc (.cells #[.int .i64 3, .int .i64 (q : Int), .int .i64 iy, .int .i64 i_n, .int .i64 imn, .int .i64 imx, .int .u64 is0, .int .u64 is1, .int .u64 is2, .int .u64 is3] 39)).drew := ((Frm.refl _ w1).alloc _).drew
  have HL2 := Lib.hid (hL1.quiet hf12)
  have hM2 := hM1.frm hf12
  have hC2 := hC1.frm hf12 (fun _ _ h => h)
  clear x0 x1 x2 x3 y0 y1 y2 y3 lx i0 i1 i2 i3 i4 i5 i6 i7 i8 i9 b0 lb hpb hM1 hC1 hX hf0 hf12 hL1
  generalize (w1.alloc (.cells #[.int .i64 3, .int .i64 (q : Int), .int .i64 iy, .int .i64 i_n, .int .i64 imn, .int .i64 imx, .int .u64 is0, .int .u64 is1, .int .u64 is2, .int .u64 is3] 39)).drew = w2 at *
  obtain ⟨bI, hbI⟩ : ∃ bI, w1.heap.size = bI := ⟨_, rfl⟩
  simp only [hbI] at hI2 ⊢
  have HBI : Hid (bX < bI) := Lib.hid (by have := HWS.out; omega)
  have HEX : Hid (¬ E1 bX ∧ ¬ E1 bI) := Lib.hid ⟨fun h => by have := HEL.out _ h; omega, fun h => by have := HEL.out _ h; have := HBI.out; omega⟩
  have HSZ : Hid (bX < w2.heap.size) := Lib.hid (by have := HBI.out; have := hI2.lt; omega)
  clear hbI HWS
  have hwp : IntKind.i64.wrap ((pc : Int) + 1) = ((pc + 1 : Nat) : Int) := by rw [IntWalk.i64_in _ (by omega)]; omega
  obtain ⟨x0, x1, x2, x3, y0, y1, y2, y3, lx⟩ := blk4 hX2
  have j0 := hI2.cell 0
  have j1 := hI2.cell 1
  have j2 := hI2.cell 2
  have j3 := hI2.cell 3
  have j4 := hI2.cell 4
  have j5 := hI2.cell 5
  have j6 := hI2.cell 6
  have j7 := hI2.cell 7
  have j8 := hI2.cell 8
  have j9 := hI2.cell 9
  simp only [List.getElem?_cons_zero, List.getElem?_cons_succ] at j0 j1 j2 j3 j4 j5 j6 j7 j8 j9
  have li := hI2.lt
  go_wp2_with fail
  refine (toM pc at_ q hM2 hC2 (by first | omega | (simp only [List.length_cons]; omega))).mono ?_
  rintro e w9 ⟨rfl, hM9, hf9⟩
  go_wp2_with fail
  go_end0
  refine ⟨rfl, (HL2.out.push hf9 (fun k h => h.1)).mx ?_⟩
  rw [← HNX.out]
  simpa [onS, HI.out] using hM9

set_option maxHeartbeats 16000000 in
theorem on4M {E D : Nat → Prop} {b g bm : Nat} {s : Stt} {m : Mc} {line : ByteArray} {pile : List Fr} {seen : List Key} {steps kept : Nat} {parts : List Pt} {turns : List Tn} {A B : Option Addr} {n cA k d : Nat} {w : World} (pc at_ : Nat) (i : Ins)
    (hM : MM w E D b g bm s m line pile seen steps kept) (hc : CfR w D parts turns A n cA B k d) (hb : pile.length ≤ 1073741000) (hi : m.ins[pc]? = some i) (hpc : pc ≤ 40000) (hat : at_ ≤ line.size) (hls : line.size ≤ 1048576) (hop : i.op = 4) (hwf : True) :
    Calls Try.prog 56 #[.pointer (some ⟨b, 0, none⟩), .agg #[.int .i64 pc, .int .i64 at_, .slice A n cA, .slice B k d]] w fun e w' => e = .returned (.tuple #[]) ∧ MX w E D w' b g bm s m line ((onS m line.toList ⟨pc, at_, parts, turns⟩).reverse.map .look ++ pile) seen steps kept := by
  have hlen : line.toList.length = line.size := by rw [ByteArray.toList_eq]; simp
  obtain ⟨iop, ix, iy, i_n, imn, imx, is0, is1, is2, is3⟩ := i
  simp only at hop hwf
  subst hop
  obtain ⟨NX, hNX⟩ : ∃ NX, (onS m line.toList ⟨pc, at_, parts, turns⟩).reverse.map Fr.look ++ pile = NX := ⟨_, rfl⟩
  rw [hNX]
  have HNX := Lib.hid hNX
  clear hNX
  have HLEN := Lib.hid hlen
  clear hlen
  have HI := Lib.hid hi
  have hX := Blk.new w [.int .i64 pc, .int .i64 at_, .slice A n cA, .slice B k d] 129
  have hf0 : Frm (fun _ => False) w (w.alloc (.cells #[.int .i64 pc, .int .i64 at_, .slice A n cA, .slice B k d] 129)) := (Frm.refl _ w).alloc _
  obtain ⟨E1, D1, hL, hM0, hC0, hEl, hDl⟩ := hM.start hc
  have HDL := Lib.hid hDl
  have hM1 := hM0.frm hf0
  have hC1 := hC0.frm hf0 (fun _ _ h => h)
  have hL1 := hL.quiet hf0
  have HEL := Lib.hid hEl
  obtain ⟨PA, pn, pcap, SA, sn, sc, MA, mn, mc, LA, ln, lc, gr, co⟩ := s
  have hPI := hM1.sta.ins
  simp only at hPI
  obtain ⟨pb, po, rfl, hpb, hpi⟩ := hPI.ins pc _ hi
  have i0 := hpi 0 _ rfl
  have i1 := hpi 1 _ rfl
  have i2 := hpi 2 _ rfl
  have i3 := hpi 3 _ rfl
  have i4 := hpi 4 _ rfl
  have i5 := hpi 5 _ rfl
  have i6 := hpi 6 _ rfl
  have i7 := hpi 7 _ rfl
  have i8 := hpi 8 _ rfl
  have i9 := hpi 9 _ rfl
  rw [Nat.add_zero] at i0
  have hpn : pc < pn := by
    have h1 := hPI.len
    rw [flatI_len] at h1
    have h2 := (List.getElem?_eq_some_iff.1 hi).1
    omega
  have b0 := hM1.obj.cell 0
  simp only [cellsB, List.getElem?_cons_zero, List.getElem?_cons_succ] at b0
  have lb := hM1.obj.lt
  have HWS : Hid (w.heap.size < (w.alloc (.cells #[.int .i64 pc, .int .i64 at_, .slice A n cA, .slice B k d] 129)).heap.size) := Lib.hid hX.lt
  clear hi hpi hPI hM hc hM0 hC0 hL hEl hDl
  go_enter Try.func56, Try.ntmps56
  go_upto_region 1 with fail
  generalize w.alloc (.cells #[.int .i64 pc, .int .i64 at_, .slice A n cA, .slice B k d] 129) = w1 at *
  generalize hbX : w.heap.size = bX at *
  have HBX := Lib.hid hbX
  clear hbX
  obtain ⟨x0, x1, x2, x3, y0, y1, y2, y3, lx⟩ := blk4 hX
  go_wp2_with fail
  go_region
  have hX2 := (hX.alloc (.cells #[.int .i64 4, .int .i64 ix, .int .i64 iy, .int .i64 i_n, .int .i64 imn, .int .i64 imx, .int .u64 is0, .int .u64 is1, .int .u64 is2, .int .u64 is3] 39)).drew
  have hI2 := (Blk.new w1 [.int .i64 4, .int .i64 ix, .int .i64 iy, .int .i64 i_n, .int .i64 imn, .int .i64 imx, .int .u64 is0, .int .u64 is1, .int .u64 is2, .int .u64 is3] 39).drew
  have hf12 : Frm (fun _ => False) w1 (w1.alloc (.cells #[.int .i64 4, .int .i64 ix, .int .i64 iy, .int .i64 i_n, .int .i64 imn, .int .i64 imx, .int .u64 is0, .int .u64 is1, .int .u64 is2, .int .u64 is3] 39)).drew := ((Frm.refl _ w1).alloc _).drew
  have HL2 := Lib.hid (hL1.quiet hf12)
  have hM2 := hM1.frm hf12
  have hC2 := hC1.frm hf12 (fun _ _ h => h)
  clear x0 x1 x2 x3 y0 y1 y2 y3 lx i0 i1 i2 i3 i4 i5 i6 i7 i8 i9 b0 lb hpb hM1 hC1 hX hf0 hf12 hL1
  generalize (w1.alloc (.cells #[.int .i64 4, .int .i64 ix, .int .i64 iy, .int .i64 i_n, .int .i64 imn, .int .i64 imx, .int .u64 is0, .int .u64 is1, .int .u64 is2, .int .u64 is3] 39)).drew = w2 at *
  obtain ⟨bI, hbI⟩ : ∃ bI, w1.heap.size = bI := ⟨_, rfl⟩
  simp only [hbI] at hI2 ⊢
  have HBI : Hid (bX < bI) := Lib.hid (by have := HWS.out; omega)
  have HEX : Hid (¬ E1 bX ∧ ¬ E1 bI) := Lib.hid ⟨fun h => by have := HEL.out _ h; omega, fun h => by have := HEL.out _ h; have := HBI.out; omega⟩
  have HSZ : Hid (bX < w2.heap.size) := Lib.hid (by have := HBI.out; have := hI2.lt; omega)
  clear hbI HWS
  have hwp : IntKind.i64.wrap ((pc : Int) + 1) = ((pc + 1 : Nat) : Int) := by rw [IntWalk.i64_in _ (by omega)]; omega
  obtain ⟨x0, x1, x2, x3, y0, y1, y2, y3, lx⟩ := blk4 hX2
  have j0 := hI2.cell 0
  have j1 := hI2.cell 1
  have j2 := hI2.cell 2
  have j3 := hI2.cell 3
  have j4 := hI2.cell 4
  have j5 := hI2.cell 5
  have j6 := hI2.cell 6
  have j7 := hI2.cell 7
  have j8 := hI2.cell 8
  have j9 := hI2.cell 9
  simp only [List.getElem?_cons_zero, List.getElem?_cons_succ] at j0 j1 j2 j3 j4 j5 j6 j7 j8 j9
  have li := hI2.lt
  by_cases h0 : at_ = 0
  · subst h0
    go_wp2_with fail
    refine (toM pc 0 (pc + 1) hM2 hC2 (by first | omega | (simp only [List.length_cons]; omega))).mono ?_
    rintro e w9 ⟨rfl, hM9, hf9⟩
    go_wp2_with fail
    go_end0
    refine ⟨rfl, (HL2.out.push hf9 (fun k h => h.1)).mx ?_⟩
    rw [← HNX.out]
    simpa [onS, HI.out] using hM9
  · have t1 : ((at_ : Int) == 0) = false := by simpa using (by omega : (at_ : Int) ≠ 0)
    go_wp2_with fail
    go_end0
    refine ⟨rfl, HL2.out.mx ?_⟩
    rw [← HNX.out]
    simpa [onS, HI.out, h0] using hM2

set_option maxHeartbeats 16000000 in
theorem on5M {E D : Nat → Prop} {b g bm : Nat} {s : Stt} {m : Mc} {line : ByteArray} {pile : List Fr} {seen : List Key} {steps kept : Nat} {parts : List Pt} {turns : List Tn} {A B : Option Addr} {n cA k d : Nat} {w : World} (pc at_ : Nat) (i : Ins)
    (hM : MM w E D b g bm s m line pile seen steps kept) (hc : CfR w D parts turns A n cA B k d) (hb : pile.length ≤ 1073741000) (hi : m.ins[pc]? = some i) (hpc : pc ≤ 40000) (hat : at_ ≤ line.size) (hls : line.size ≤ 1048576) (hop : i.op = 5) (hwf : True) :
    Calls Try.prog 56 #[.pointer (some ⟨b, 0, none⟩), .agg #[.int .i64 pc, .int .i64 at_, .slice A n cA, .slice B k d]] w fun e w' => e = .returned (.tuple #[]) ∧ MX w E D w' b g bm s m line ((onS m line.toList ⟨pc, at_, parts, turns⟩).reverse.map .look ++ pile) seen steps kept := by
  have hlen : line.toList.length = line.size := by rw [ByteArray.toList_eq]; simp
  obtain ⟨iop, ix, iy, i_n, imn, imx, is0, is1, is2, is3⟩ := i
  simp only at hop hwf
  subst hop
  obtain ⟨NX, hNX⟩ : ∃ NX, (onS m line.toList ⟨pc, at_, parts, turns⟩).reverse.map Fr.look ++ pile = NX := ⟨_, rfl⟩
  rw [hNX]
  have HNX := Lib.hid hNX
  clear hNX
  have HLEN := Lib.hid hlen
  clear hlen
  have HI := Lib.hid hi
  have hX := Blk.new w [.int .i64 pc, .int .i64 at_, .slice A n cA, .slice B k d] 129
  have hf0 : Frm (fun _ => False) w (w.alloc (.cells #[.int .i64 pc, .int .i64 at_, .slice A n cA, .slice B k d] 129)) := (Frm.refl _ w).alloc _
  obtain ⟨E1, D1, hL, hM0, hC0, hEl, hDl⟩ := hM.start hc
  have HDL := Lib.hid hDl
  have hM1 := hM0.frm hf0
  have hC1 := hC0.frm hf0 (fun _ _ h => h)
  have hL1 := hL.quiet hf0
  have HEL := Lib.hid hEl
  obtain ⟨PA, pn, pcap, SA, sn, sc, MA, mn, mc, LA, ln, lc, gr, co⟩ := s
  have hPI := hM1.sta.ins
  simp only at hPI
  obtain ⟨pb, po, rfl, hpb, hpi⟩ := hPI.ins pc _ hi
  have i0 := hpi 0 _ rfl
  have i1 := hpi 1 _ rfl
  have i2 := hpi 2 _ rfl
  have i3 := hpi 3 _ rfl
  have i4 := hpi 4 _ rfl
  have i5 := hpi 5 _ rfl
  have i6 := hpi 6 _ rfl
  have i7 := hpi 7 _ rfl
  have i8 := hpi 8 _ rfl
  have i9 := hpi 9 _ rfl
  rw [Nat.add_zero] at i0
  have hpn : pc < pn := by
    have h1 := hPI.len
    rw [flatI_len] at h1
    have h2 := (List.getElem?_eq_some_iff.1 hi).1
    omega
  have b0 := hM1.obj.cell 0
  simp only [cellsB, List.getElem?_cons_zero, List.getElem?_cons_succ] at b0
  have lb := hM1.obj.lt
  have HWS : Hid (w.heap.size < (w.alloc (.cells #[.int .i64 pc, .int .i64 at_, .slice A n cA, .slice B k d] 129)).heap.size) := Lib.hid hX.lt
  clear hi hpi hPI hM hc hM0 hC0 hL hEl hDl
  go_enter Try.func56, Try.ntmps56
  go_upto_region 1 with fail
  generalize w.alloc (.cells #[.int .i64 pc, .int .i64 at_, .slice A n cA, .slice B k d] 129) = w1 at *
  generalize hbX : w.heap.size = bX at *
  have HBX := Lib.hid hbX
  clear hbX
  obtain ⟨x0, x1, x2, x3, y0, y1, y2, y3, lx⟩ := blk4 hX
  go_wp2_with fail
  go_region
  have hX2 := (hX.alloc (.cells #[.int .i64 5, .int .i64 ix, .int .i64 iy, .int .i64 i_n, .int .i64 imn, .int .i64 imx, .int .u64 is0, .int .u64 is1, .int .u64 is2, .int .u64 is3] 39)).drew
  have hI2 := (Blk.new w1 [.int .i64 5, .int .i64 ix, .int .i64 iy, .int .i64 i_n, .int .i64 imn, .int .i64 imx, .int .u64 is0, .int .u64 is1, .int .u64 is2, .int .u64 is3] 39).drew
  have hf12 : Frm (fun _ => False) w1 (w1.alloc (.cells #[.int .i64 5, .int .i64 ix, .int .i64 iy, .int .i64 i_n, .int .i64 imn, .int .i64 imx, .int .u64 is0, .int .u64 is1, .int .u64 is2, .int .u64 is3] 39)).drew := ((Frm.refl _ w1).alloc _).drew
  have HL2 := Lib.hid (hL1.quiet hf12)
  have hM2 := hM1.frm hf12
  have hC2 := hC1.frm hf12 (fun _ _ h => h)
  clear x0 x1 x2 x3 y0 y1 y2 y3 lx i0 i1 i2 i3 i4 i5 i6 i7 i8 i9 b0 lb hpb hM1 hC1 hX hf0 hf12 hL1
  generalize (w1.alloc (.cells #[.int .i64 5, .int .i64 ix, .int .i64 iy, .int .i64 i_n, .int .i64 imn, .int .i64 imx, .int .u64 is0, .int .u64 is1, .int .u64 is2, .int .u64 is3] 39)).drew = w2 at *
  obtain ⟨bI, hbI⟩ : ∃ bI, w1.heap.size = bI := ⟨_, rfl⟩
  simp only [hbI] at hI2 ⊢
  have HBI : Hid (bX < bI) := Lib.hid (by have := HWS.out; omega)
  have HEX : Hid (¬ E1 bX ∧ ¬ E1 bI) := Lib.hid ⟨fun h => by have := HEL.out _ h; omega, fun h => by have := HEL.out _ h; have := HBI.out; omega⟩
  have HSZ : Hid (bX < w2.heap.size) := Lib.hid (by have := HBI.out; have := hI2.lt; omega)
  clear hbI HWS
  have hwp : IntKind.i64.wrap ((pc : Int) + 1) = ((pc + 1 : Nat) : Int) := by rw [IntWalk.i64_in _ (by omega)]; omega
  obtain ⟨x0, x1, x2, x3, y0, y1, y2, y3, lx⟩ := blk4 hX2
  have j0 := hI2.cell 0
  have j1 := hI2.cell 1
  have j2 := hI2.cell 2
  have j3 := hI2.cell 3
  have j4 := hI2.cell 4
  have j5 := hI2.cell 5
  have j6 := hI2.cell 6
  have j7 := hI2.cell 7
  have j8 := hI2.cell 8
  have j9 := hI2.cell 9
  simp only [List.getElem?_cons_zero, List.getElem?_cons_succ] at j0 j1 j2 j3 j4 j5 j6 j7 j8 j9
  have li := hI2.lt
  have b10 := hM2.obj.cell 10
  simp only [cellsB, List.getElem?_cons_zero, List.getElem?_cons_succ] at b10
  have lb := hM2.obj.lt
  by_cases h0 : at_ = line.size
  · have hl2 : line.toList.length = at_ := by rw [HLEN.out, h0]
    have t1 : ((at_ : Int) == (line.size : Int)) = true := by simp [h0]
    have HL0 := Lib.hid (⟨h0, hl2⟩ : _ ∧ _)
    clear h0 hl2
    go_wp2_with fail
    go_quiet (fail)
    clear b10 lb
    have hfq : Frm (fun _ => False) w2 (w2.drewN nq) := (Frm.refl _ w2).drewN nq
    have hM3 := hM2.frm hfq
    have hC3 := hC2.frm hfq (fun _ _ h => h)
    have HL3 := Lib.hid (HL2.out.quiet hfq)
    have hX3 := hX2.frm hfq (fun h => h)
    have hI3 := hI2.frm hfq (fun h => h)
    have hzq := hfq.size
    clear hfq x0 x1 x2 x3 y0 y1 y2 y3 lx j0 j1 j2 j3 j4 j5 j6 j7 j8 j9 li
    generalize w2.drewN nq = w3 at *
    obtain ⟨x0, x1, x2, x3, y0, y1, y2, y3, lx⟩ := blk4 hX3
    have j0 := hI3.cell 0
    have j1 := hI3.cell 1
    have j2 := hI3.cell 2
    have j3 := hI3.cell 3
    have j4 := hI3.cell 4
    have j5 := hI3.cell 5
    have j6 := hI3.cell 6
    have j7 := hI3.cell 7
    have j8 := hI3.cell 8
    have j9 := hI3.cell 9
    simp only [List.getElem?_cons_zero, List.getElem?_cons_succ] at j0 j1 j2 j3 j4 j5 j6 j7 j8 j9
    have li := hI3.lt
    go_wp2_with fail
    refine (toM pc at_ (pc + 1) hM3 hC3 (by first | omega | (simp only [List.length_cons]; omega))).mono ?_
    rintro e w9 ⟨rfl, hM9, hf9⟩
    go_wp2_with fail
    go_end0
    refine ⟨rfl, (HL3.out.push hf9 (fun k h => h.1)).mx ?_⟩
    rw [← HNX.out]
    simpa [onS, HI.out, HL0.out.2] using hM9
  · have hl2 : ¬ (at_ = line.toList.length) := by rw [HLEN.out]; exact h0
    have t1 : ((at_ : Int) == (line.size : Int)) = false := by simp; omega
    go_wp2_with fail
    go_quiet (fail)
    clear b10 lb
    have hfq : Frm (fun _ => False) w2 (w2.drewN nq) := (Frm.refl _ w2).drewN nq
    have hM3 := hM2.frm hfq
    have hC3 := hC2.frm hfq (fun _ _ h => h)
    have HL3 := Lib.hid (HL2.out.quiet hfq)
    have hX3 := hX2.frm hfq (fun h => h)
    have hI3 := hI2.frm hfq (fun h => h)
    have hzq := hfq.size
    clear hfq x0 x1 x2 x3 y0 y1 y2 y3 lx j0 j1 j2 j3 j4 j5 j6 j7 j8 j9 li
    generalize w2.drewN nq = w3 at *
    obtain ⟨x0, x1, x2, x3, y0, y1, y2, y3, lx⟩ := blk4 hX3
    have j0 := hI3.cell 0
    have j1 := hI3.cell 1
    have j2 := hI3.cell 2
    have j3 := hI3.cell 3
    have j4 := hI3.cell 4
    have j5 := hI3.cell 5
    have j6 := hI3.cell 6
    have j7 := hI3.cell 7
    have j8 := hI3.cell 8
    have j9 := hI3.cell 9
    simp only [List.getElem?_cons_zero, List.getElem?_cons_succ] at j0 j1 j2 j3 j4 j5 j6 j7 j8 j9
    have li := hI3.lt
    go_wp2_with fail
    go_end0
    refine ⟨rfl, HL3.out.mx ?_⟩
    rw [← HNX.out]
    simpa [onS, HI.out, hl2] using hM3

set_option maxHeartbeats 16000000 in
theorem on9M {E D : Nat → Prop} {b g bm : Nat} {s : Stt} {m : Mc} {line : ByteArray} {pile : List Fr} {seen : List Key} {steps kept : Nat} {parts : List Pt} {turns : List Tn} {A B : Option Addr} {n cA k d : Nat} {w : World} (pc at_ : Nat) (i : Ins)
    (hM : MM w E D b g bm s m line pile seen steps kept) (hc : CfR w D parts turns A n cA B k d) (hb : pile.length ≤ 1073741000) (hi : m.ins[pc]? = some i) (hpc : pc ≤ 40000) (hat : at_ ≤ line.size) (hls : line.size ≤ 1048576) (hop : i.op = 9) (hwf : 0 ≤ i.n ∧ i.n < turns.length) (hkk : turns.length ≤ 1000) :
    Calls Try.prog 56 #[.pointer (some ⟨b, 0, none⟩), .agg #[.int .i64 pc, .int .i64 at_, .slice A n cA, .slice B k d]] w fun e w' => e = .returned (.tuple #[]) ∧ MX w E D w' b g bm s m line ((onS m line.toList ⟨pc, at_, parts, turns⟩).reverse.map .look ++ pile) seen steps kept := by
  have hlen : line.toList.length = line.size := by rw [ByteArray.toList_eq]; simp
  obtain ⟨iop, ix, iy, i_n, imn, imx, is0, is1, is2, is3⟩ := i
  simp only at hop hwf
  subst hop
  obtain ⟨kn, rfl⟩ := Int.eq_ofNat_of_zero_le hwf.1
  have hkl : turns.length = k := by have := hc.t.len; rw [flatN_len] at this; omega
  obtain ⟨NX, hNX⟩ : ∃ NX, (onS m line.toList ⟨pc, at_, parts, turns⟩).reverse.map Fr.look ++ pile = NX := ⟨_, rfl⟩
  rw [hNX]
  have HNX := Lib.hid hNX
  clear hNX
  have HLEN := Lib.hid hlen
  clear hlen
  have HI := Lib.hid hi
  have hX := Blk.new w [.int .i64 pc, .int .i64 at_, .slice A n cA, .slice B k d] 129
  have hf0 : Frm (fun _ => False) w (w.alloc (.cells #[.int .i64 pc, .int .i64 at_, .slice A n cA, .slice B k d] 129)) := (Frm.refl _ w).alloc _
  obtain ⟨E1, D1, hL, hM0, hC0, hEl, hDl⟩ := hM.start hc
  have HDL := Lib.hid hDl
  have hM1 := hM0.frm hf0
  have hC1 := hC0.frm hf0 (fun _ _ h => h)
  have hL1 := hL.quiet hf0
  have HEL := Lib.hid hEl
  obtain ⟨PA, pn, pcap, SA, sn, sc, MA, mn, mc, LA, ln, lc, gr, co⟩ := s
  have hPI := hM1.sta.ins
  simp only at hPI
  obtain ⟨pb, po, rfl, hpb, hpi⟩ := hPI.ins pc _ hi
  have i0 := hpi 0 _ rfl
  have i1 := hpi 1 _ rfl
  have i2 := hpi 2 _ rfl
  have i3 := hpi 3 _ rfl
  have i4 := hpi 4 _ rfl
  have i5 := hpi 5 _ rfl
  have i6 := hpi 6 _ rfl
  have i7 := hpi 7 _ rfl
  have i8 := hpi 8 _ rfl
  have i9 := hpi 9 _ rfl
  rw [Nat.add_zero] at i0
  have hpn : pc < pn := by
    have h1 := hPI.len
    rw [flatI_len] at h1
    have h2 := (List.getElem?_eq_some_iff.1 hi).1
    omega
  have b0 := hM1.obj.cell 0
  simp only [cellsB, List.getElem?_cons_zero, List.getElem?_cons_succ] at b0
  have lb := hM1.obj.lt
  have HWS : Hid (w.heap.size < (w.alloc (.cells #[.int .i64 pc, .int .i64 at_, .slice A n cA, .slice B k d] 129)).heap.size) := Lib.hid hX.lt
  clear hi hpi hPI hM hc hM0 hC0 hL hEl hDl
  go_enter Try.func56, Try.ntmps56
  go_upto_region 1 with fail
  generalize w.alloc (.cells #[.int .i64 pc, .int .i64 at_, .slice A n cA, .slice B k d] 129) = w1 at *
  generalize hbX : w.heap.size = bX at *
  have HBX := Lib.hid hbX
  clear hbX
  obtain ⟨x0, x1, x2, x3, y0, y1, y2, y3, lx⟩ := blk4 hX
  go_wp2_with fail
  go_region
  have hX2 := (hX.alloc (.cells #[.int .i64 9, .int .i64 ix, .int .i64 iy, .int .i64 (kn : Int), .int .i64 imn, .int .i64 imx, .int .u64 is0, .int .u64 is1, .int .u64 is2, .int .u64 is3] 39)).drew
  have hI2 := (Blk.new w1 [.int .i64 9, .int .i64 ix, .int .i64 iy, .int .i64 (kn : Int), .int .i64 imn, .int .i64 imx, .int .u64 is0, .int .u64 is1, .int .u64 is2, .int .u64 is3] 39).drew
  have hf12 : Frm (fun _ => False) w1 (w1.alloc (.cells #[.int .i64 9, .int .i64 ix, .int .i64 iy, .int .i64 (kn : Int), .int .i64 imn, .int .i64 imx, .int .u64 is0, .int .u64 is1, .int .u64 is2, .int .u64 is3] 39)).drew := ((Frm.refl _ w1).alloc _).drew
  have HL2 := Lib.hid (hL1.quiet hf12)
  have hM2 := hM1.frm hf12
  have hC2 := hC1.frm hf12 (fun _ _ h => h)
  clear x0 x1 x2 x3 y0 y1 y2 y3 lx i0 i1 i2 i3 i4 i5 i6 i7 i8 i9 b0 lb hpb hM1 hC1 hX hf0 hf12 hL1
  generalize (w1.alloc (.cells #[.int .i64 9, .int .i64 ix, .int .i64 iy, .int .i64 (kn : Int), .int .i64 imn, .int .i64 imx, .int .u64 is0, .int .u64 is1, .int .u64 is2, .int .u64 is3] 39)).drew = w2 at *
  obtain ⟨bI, hbI⟩ : ∃ bI, w1.heap.size = bI := ⟨_, rfl⟩
  simp only [hbI] at hI2 ⊢
  have HBI : Hid (bX < bI) := Lib.hid (by have := HWS.out; omega)
  have HEX : Hid (¬ E1 bX ∧ ¬ E1 bI) := Lib.hid ⟨fun h => by have := HEL.out _ h; omega, fun h => by have := HEL.out _ h; have := HBI.out; omega⟩
  have HSZ : Hid (bX < w2.heap.size) := Lib.hid (by have := HBI.out; have := hI2.lt; omega)
  clear hbI HWS
  have hwp : IntKind.i64.wrap ((pc : Int) + 1) = ((pc + 1 : Nat) : Int) := by rw [IntWalk.i64_in _ (by omega)]; omega
  obtain ⟨x0, x1, x2, x3, y0, y1, y2, y3, lx⟩ := blk4 hX2
  have j0 := hI2.cell 0
  have j1 := hI2.cell 1
  have j2 := hI2.cell 2
  have j3 := hI2.cell 3
  have j4 := hI2.cell 4
  have j5 := hI2.cell 5
  have j6 := hI2.cell 6
  have j7 := hI2.cell 7
  have j8 := hI2.cell 8
  have j9 := hI2.cell 9
  simp only [List.getElem?_cons_zero, List.getElem?_cons_succ] at j0 j1 j2 j3 j4 j5 j6 j7 j8 j9
  have li := hI2.lt
  have hM3 := hM2.frm ((Frm.refl _ w2).drew)
  have hC3 := hC2.frm ((Frm.refl _ w2).drew) (fun _ _ h => h)
  have hL3 := HL2.out.quiet ((Frm.refl _ w2).drew)
  have HCT : Hid (Calls Try.prog 78 #[.agg #[.int .i64 pc, .int .i64 at_, .slice A n cA, .slice B k d], .int .i64 kn, .agg #[.int .i64 0, .int .i64 (-1)]] w2.drew fun e w3 => ∃ B' d', e = .returned (.agg #[.int .i64 pc, .int .i64 at_, .slice A n cA, .slice B' k d']) ∧ Frm (fun _ => False) w2.drew w3 ∧ Hid (Calls Try.prog 75 #[.pointer (some ⟨b, 0, none⟩), .agg #[.int .i64 pc, .int .i64 at_, .slice A n cA, .slice B' k d'], .int .i64 ((pc + 1 : Nat) : Int)] w3 fun e w9 => e = .returned (.tuple #[]) ∧ MX w E D w9 b g bm ⟨some ⟨pb, po, none⟩, pn, pcap, SA, sn, sc, MA, mn, mc, LA, ln, lc, gr, co⟩ m line NX seen steps kept)) := Lib.hid (by
    refine (countedC pc at_ A B n cA k d turns kn ⟨0, -1⟩ _ w2.drew hC3.t (by omega) (by omega)).mono ?_
    rintro e w3 ⟨B', d', rfl, hr, hf⟩
    refine ⟨B', d', rfl, hf, Lib.hid ?_⟩
    have hM4 := (hM3.frm hf).more (G := fun q => D1 q ∨ w2.drew.heap.size ≤ q) (fun q h _ => .inl h) (fun q h he => by rcases h with h | h; exact hM3.apart q h he; have := HEL.out q he; have := HSZ.out; have hrf : w2.drew.heap.size = w2.heap.size := rfl; omega)
    have hC4 : CfR w3 (fun q => D1 q ∨ w2.drew.heap.size ≤ q) parts (turns.set kn ⟨0, -1⟩) A n cA B' k d' := ⟨(hC3.p.frm hf (fun _ _ h => h)).mono (fun q h _ => .inl h), hr.mono (fun q h _ => .inr h)⟩
    refine (toM pc at_ (pc + 1) hM4 hC4 (by omega)).mono ?_
    rintro e w9 ⟨rfl, hM9, hf9⟩
    refine ⟨rfl, (((hL3.quiet hf).more (G := fun q => D1 q ∨ w2.drew.heap.size ≤ q) (fun q h => .inl h)).push hf9 (fun k h => h.1)).mx ?_⟩
    rw [← HNX.out]
    simpa [onS, HI.out, countS] using hM9)
  clear hM3 hC3 hL3 hM2 hC2
  go_wp2_with fail
  go_region_law (first
    | (refine step_call (f := 78) rfl rfl Try.func78 (by kernel_rfl) rfl _ (by simp only [List.map_toArray, List.map_cons, List.map_nil]; rfl) ?_; refine HCT.out.mono ?_; rintro e w3 ⟨B', d', rfl, hf3, h3⟩; refine ⟨_, rfl, ?_⟩; have x0 := (hX2.drew.frm hf3 (fun h => h)).cell 0; simp only [List.getElem?_cons_zero] at x0)
    | (refine step_call (f := 75) rfl rfl Try.func75 (by kernel_rfl) rfl _ (by simp only [List.map_toArray, List.map_cons, List.map_nil]; rfl) ?_; refine h3.out.mono ?_; rintro e w9 ⟨rfl, hmx⟩; refine ⟨_, rfl, ?_⟩))
  all_goals
    go_wp2_with fail
    go_end0
    exact ⟨rfl, hmx⟩

set_option maxHeartbeats 16000000 in
theorem on11M {E D : Nat → Prop} {b g bm : Nat} {s : Stt} {m : Mc} {line : ByteArray} {pile : List Fr} {seen : List Key} {steps kept : Nat} {parts : List Pt} {turns : List Tn} {A B : Option Addr} {n cA k d : Nat} {w : World} (pc at_ : Nat) (i : Ins)
    (hM : MM w E D b g bm s m line pile seen steps kept) (hc : CfR w D parts turns A n cA B k d) (hb : pile.length ≤ 1073741000) (hi : m.ins[pc]? = some i) (hpc : pc ≤ 40000) (hat : at_ ≤ line.size) (hls : line.size ≤ 1048576) (hop : i.op = 11) (hwf : True) :
    Calls Try.prog 56 #[.pointer (some ⟨b, 0, none⟩), .agg #[.int .i64 pc, .int .i64 at_, .slice A n cA, .slice B k d]] w fun e w' => e = .returned (.tuple #[]) ∧ MX w E D w' b g bm s m line ((onS m line.toList ⟨pc, at_, parts, turns⟩).reverse.map .look ++ pile) seen steps kept := by
  have hlen : line.toList.length = line.size := by rw [ByteArray.toList_eq]; simp
  obtain ⟨iop, ix, iy, i_n, imn, imx, is0, is1, is2, is3⟩ := i
  simp only at hop hwf
  subst hop
  obtain ⟨NX, hNX⟩ : ∃ NX, (onS m line.toList ⟨pc, at_, parts, turns⟩).reverse.map Fr.look ++ pile = NX := ⟨_, rfl⟩
  rw [hNX]
  have HNX := Lib.hid hNX
  clear hNX
  have HLEN := Lib.hid hlen
  clear hlen
  have HI := Lib.hid hi
  have hX := Blk.new w [.int .i64 pc, .int .i64 at_, .slice A n cA, .slice B k d] 129
  have hf0 : Frm (fun _ => False) w (w.alloc (.cells #[.int .i64 pc, .int .i64 at_, .slice A n cA, .slice B k d] 129)) := (Frm.refl _ w).alloc _
  obtain ⟨E1, D1, hL, hM0, hC0, hEl, hDl⟩ := hM.start hc
  have HDL := Lib.hid hDl
  have hM1 := hM0.frm hf0
  have hC1 := hC0.frm hf0 (fun _ _ h => h)
  have hL1 := hL.quiet hf0
  have HEL := Lib.hid hEl
  obtain ⟨PA, pn, pcap, SA, sn, sc, MA, mn, mc, LA, ln, lc, gr, co⟩ := s
  have hPI := hM1.sta.ins
  simp only at hPI
  obtain ⟨pb, po, rfl, hpb, hpi⟩ := hPI.ins pc _ hi
  have i0 := hpi 0 _ rfl
  have i1 := hpi 1 _ rfl
  have i2 := hpi 2 _ rfl
  have i3 := hpi 3 _ rfl
  have i4 := hpi 4 _ rfl
  have i5 := hpi 5 _ rfl
  have i6 := hpi 6 _ rfl
  have i7 := hpi 7 _ rfl
  have i8 := hpi 8 _ rfl
  have i9 := hpi 9 _ rfl
  rw [Nat.add_zero] at i0
  have hpn : pc < pn := by
    have h1 := hPI.len
    rw [flatI_len] at h1
    have h2 := (List.getElem?_eq_some_iff.1 hi).1
    omega
  have b0 := hM1.obj.cell 0
  simp only [cellsB, List.getElem?_cons_zero, List.getElem?_cons_succ] at b0
  have lb := hM1.obj.lt
  have HWS : Hid (w.heap.size < (w.alloc (.cells #[.int .i64 pc, .int .i64 at_, .slice A n cA, .slice B k d] 129)).heap.size) := Lib.hid hX.lt
  clear hi hpi hPI hM hc hM0 hC0 hL hEl hDl
  go_enter Try.func56, Try.ntmps56
  go_upto_region 1 with fail
  generalize w.alloc (.cells #[.int .i64 pc, .int .i64 at_, .slice A n cA, .slice B k d] 129) = w1 at *
  generalize hbX : w.heap.size = bX at *
  have HBX := Lib.hid hbX
  clear hbX
  obtain ⟨x0, x1, x2, x3, y0, y1, y2, y3, lx⟩ := blk4 hX
  go_wp2_with fail
  go_region
  have hX2 := (hX.alloc (.cells #[.int .i64 11, .int .i64 ix, .int .i64 iy, .int .i64 i_n, .int .i64 imn, .int .i64 imx, .int .u64 is0, .int .u64 is1, .int .u64 is2, .int .u64 is3] 39)).drew
  have hI2 := (Blk.new w1 [.int .i64 11, .int .i64 ix, .int .i64 iy, .int .i64 i_n, .int .i64 imn, .int .i64 imx, .int .u64 is0, .int .u64 is1, .int .u64 is2, .int .u64 is3] 39).drew
  have hf12 : Frm (fun _ => False) w1 (w1.alloc (.cells #[.int .i64 11, .int .i64 ix, .int .i64 iy, .int .i64 i_n, .int .i64 imn, .int .i64 imx, .int .u64 is0, .int .u64 is1, .int .u64 is2, .int .u64 is3] 39)).drew := ((Frm.refl _ w1).alloc _).drew
  have HL2 := Lib.hid (hL1.quiet hf12)
  have hM2 := hM1.frm hf12
  have hC2 := hC1.frm hf12 (fun _ _ h => h)
  clear x0 x1 x2 x3 y0 y1 y2 y3 lx i0 i1 i2 i3 i4 i5 i6 i7 i8 i9 b0 lb hpb hM1 hC1 hX hf0 hf12 hL1
  generalize (w1.alloc (.cells #[.int .i64 11, .int .i64 ix, .int .i64 iy, .int .i64 i_n, .int .i64 imn, .int .i64 imx, .int .u64 is0, .int .u64 is1, .int .u64 is2, .int .u64 is3] 39)).drew = w2 at *
  obtain ⟨bI, hbI⟩ : ∃ bI, w1.heap.size = bI := ⟨_, rfl⟩
  simp only [hbI] at hI2 ⊢
  have HBI : Hid (bX < bI) := Lib.hid (by have := HWS.out; omega)
  have HEX : Hid (¬ E1 bX ∧ ¬ E1 bI) := Lib.hid ⟨fun h => by have := HEL.out _ h; omega, fun h => by have := HEL.out _ h; have := HBI.out; omega⟩
  have HSZ : Hid (bX < w2.heap.size) := Lib.hid (by have := HBI.out; have := hI2.lt; omega)
  clear hbI HWS
  have hwp : IntKind.i64.wrap ((pc : Int) + 1) = ((pc + 1 : Nat) : Int) := by rw [IntWalk.i64_in _ (by omega)]; omega
  obtain ⟨x0, x1, x2, x3, y0, y1, y2, y3, lx⟩ := blk4 hX2
  have j0 := hI2.cell 0
  have j1 := hI2.cell 1
  have j2 := hI2.cell 2
  have j3 := hI2.cell 3
  have j4 := hI2.cell 4
  have j5 := hI2.cell 5
  have j6 := hI2.cell 6
  have j7 := hI2.cell 7
  have j8 := hI2.cell 8
  have j9 := hI2.cell 9
  simp only [List.getElem?_cons_zero, List.getElem?_cons_succ] at j0 j1 j2 j3 j4 j5 j6 j7 j8 j9
  have li := hI2.lt
  go_wp2_with fail
  go_end0
  refine ⟨rfl, HL2.out.mx ?_⟩
  rw [← HNX.out]
  simpa [onS, HI.out] using hM2
end Go.Proofs.Ytoadmpochaeohaa
end
