/-
  Layer 20: on, walked: operation 10.
-/
import Derived.Test.YtoadmpochaeohaaBMach
import Derived.Test.YtoadmpochaeohaaBBrk
import Derived.Test.YtoadmpochaeohaaBTurn
set_option linter.unusedVariables false
set_option linter.unusedSimpArgs false
set_option maxRecDepth 100000
namespace Go.Proofs.Ytoadmpochaeohaa
open Go.RowKit

set_option maxHeartbeats 16000000 in
theorem on10M {E D : Nat → Prop} {b g bm : Nat} {s : Stt} {m : Mc} {line : ByteArray} {pile : List Fr} {seen : List Key} {steps kept : Nat} {parts : List Pt} {turns : List Tn} {A B : Option Addr} {n cA k d : Nat} {w : World} (pc at_ : Nat) (i : Ins)
    (hM : MM w E D b g bm s m line pile seen steps kept) (hc : CfR w D parts turns A n cA B k d) (hb : pile.length ≤ 1073741000) (hi : m.ins[pc]? = some i) (hpc : pc ≤ 40000) (hat : at_ ≤ line.size) (hls : line.size ≤ 1048576) (hop : i.op = 10) (hwf : 0 ≤ i.x ∧ 0 ≤ i.y ∧ 0 ≤ i.n) (t : Tn) (ht : turns[i.n.toNat]? = some t) (mv : Int) (hmv : m.most[i.n.toNat]? = some mv) (htm : 0 ≤ t.many ∧ t.many ≤ 1048576) (hkk : turns.length ≤ 1000) :
    Calls Try.prog 56 #[.pointer (some ⟨b, 0, none⟩), .agg #[.int .i64 pc, .int .i64 at_, .slice A n cA, .slice B k d]] w fun e w' => e = .returned (.tuple #[]) ∧ MX w E D w' b g bm s m line ((onS m line.toList ⟨pc, at_, parts, turns⟩).reverse.map .look ++ pile) seen steps kept := by
  have hlen : line.toList.length = line.size := by rw [ByteArray.toList_eq]; simp
  obtain ⟨iop, ix, iy, i_n, imn, imx, is0, is1, is2, is3⟩ := i
  simp only at hop hwf
  subst hop
  obtain ⟨q, rfl⟩ := Int.eq_ofNat_of_zero_le hwf.1
  obtain ⟨r, rfl⟩ := Int.eq_ofNat_of_zero_le hwf.2.1
  obtain ⟨kn, rfl⟩ := Int.eq_ofNat_of_zero_le hwf.2.2
  have HT := Lib.hid (⟨ht, hmv, htm⟩ : _ ∧ _ ∧ _)
  clear ht hmv htm
  obtain ⟨NX, hNX⟩ : ∃ NX, (onS m line.toList ⟨pc, at_, parts, turns⟩).reverse.map Fr.look ++ pile = NX := ⟨_, rfl⟩
  rw [hNX]
  have HNX := Lib.hid hNX
  clear hNX
  have HLEN := Lib.hid hlen
  clear hlen
  have HI := Lib.hid hi
  have hX := Blk.new w [.int .i64 pc, .int .i64 at_, .slice A n cA, .slice B k d] 129
  have hf0 : Frm (fun _ => False) w (w.alloc (.cells #[.int .i64 pc, .int .i64 at_, .slice A n cA, .slice B k d] 129)) := (Frm.refl _ w).alloc _
  obtain ⟨E1, D1, hL, hM0, hC0, hEl, hDl⟩ := hM.start hc
  have HDL := Lib.hid hDl
  have hM1 := hM0.frm hf0
  have hC1 := hC0.frm hf0 (fun _ _ h => h)
  have hL1 := hL.quiet hf0
  have HEL := Lib.hid hEl
  obtain ⟨PA, pn, pcap, SA, sn, sc, MA, mn, mc, LA, ln, lc, gr, co⟩ := s
  have hPI := hM1.sta.ins
  simp only at hPI
  obtain ⟨pb, po, rfl, hpb, hpi⟩ := hPI.ins pc _ hi
  have i0 := hpi 0 _ rfl
  have i1 := hpi 1 _ rfl
  have i2 := hpi 2 _ rfl
  have i3 := hpi 3 _ rfl
  have i4 := hpi 4 _ rfl
  have i5 := hpi 5 _ rfl
  have i6 := hpi 6 _ rfl
  have i7 := hpi 7 _ rfl
  have i8 := hpi 8 _ rfl
  have i9 := hpi 9 _ rfl
  rw [Nat.add_zero] at i0
  have hpn : pc < pn := by
    have h1 := hPI.len
    rw [flatI_len] at h1
    have h2 := (List.getElem?_eq_some_iff.1 hi).1
    omega
  have b0 := hM1.obj.cell 0
  simp only [cellsB, List.getElem?_cons_zero, List.getElem?_cons_succ] at b0
  have lb := hM1.obj.lt
  have HWS : Hid (w.heap.size < (w.alloc (.cells #[.int .i64 pc, .int .i64 at_, .slice A n cA, .slice B k d] 129)).heap.size) := Lib.hid hX.lt
  clear hi hpi hPI hM hc hM0 hC0 hL hEl hDl
  go_enter Try.func56, Try.ntmps56
  go_upto_region 1 with fail
  generalize w.alloc (.cells #[.int .i64 pc, .int .i64 at_, .slice A n cA, .slice B k d] 129) = w1 at *
  generalize hbX : w.heap.size = bX at *
  have HBX := Lib.hid hbX
  clear hbX
  obtain ⟨x0, x1, x2, x3, y0, y1, y2, y3, lx⟩ := blk4 hX
  go_wp2_with fail
  go_region
  have hX2 := (hX.alloc (.cells #[.int .i64 10, .int .i64 (q : Int), .int .i64 (r : Int), .int .i64 (kn : Int), .int .i64 imn, .int .i64 imx, .int .u64 is0, .int .u64 is1, .int .u64 is2, .int .u64 is3] 39)).drew
  have hI2 := (Blk.new w1 [.int .i64 10, .int .i64 (q : Int), .int .i64 (r : Int), .int .i64 (kn : Int), .int .i64 imn, .int .i64 imx, .int .u64 is0, .int .u64 is1, .int .u64 is2, .int .u64 is3] 39).drew
  have hf12 : Frm (fun _ => False) w1 (w1.alloc (.cells #[.int .i64 10, .int .i64 (q : Int), .int .i64 (r : Int), .int .i64 (kn : Int), .int .i64 imn, .int .i64 imx, .int .u64 is0, .int .u64 is1, .int .u64 is2, .int .u64 is3] 39)).drew := ((Frm.refl _ w1).alloc _).drew
  have HL2 := Lib.hid (hL1.quiet hf12)
  have hM2 := hM1.frm hf12
  have hC2 := hC1.frm hf12 (fun _ _ h => h)
  clear x0 x1 x2 x3 y0 y1 y2 y3 lx i0 i1 i2 i3 i4 i5 i6 i7 i8 i9 b0 lb hpb hM1 hC1 hX hf0 hf12 hL1
  generalize (w1.alloc (.cells #[.int .i64 10, .int .i64 (q : Int), .int .i64 (r : Int), .int .i64 (kn : Int), .int .i64 imn, .int .i64 imx, .int .u64 is0, .int .u64 is1, .int .u64 is2, .int .u64 is3] 39)).drew = w2 at *
  obtain ⟨bI, hbI⟩ : ∃ bI, w1.heap.size = bI := ⟨_, rfl⟩
  simp only [hbI] at hI2 ⊢
  have HBI : Hid (bX < bI) := Lib.hid (by have := HWS.out; omega)
  have HEX : Hid (¬ E1 bX ∧ ¬ E1 bI) := Lib.hid ⟨fun h => by have := HEL.out _ h; omega, fun h => by have := HEL.out _ h; have := HBI.out; omega⟩
  have HSZ : Hid (bX < w2.heap.size) := Lib.hid (by have := HBI.out; have := hI2.lt; omega)
  clear hbI HWS
  have hwp : IntKind.i64.wrap ((pc : Int) + 1) = ((pc + 1 : Nat) : Int) := by rw [IntWalk.i64_in _ (by omega)]; omega
  obtain ⟨x0, x1, x2, x3, y0, y1, y2, y3, lx⟩ := blk4 hX2
  have j0 := hI2.cell 0
  have j1 := hI2.cell 1
  have j2 := hI2.cell 2
  have j3 := hI2.cell 3
  have j4 := hI2.cell 4
  have j5 := hI2.cell 5
  have j6 := hI2.cell 6
  have j7 := hI2.cell 7
  have j8 := hI2.cell 8
  have j9 := hI2.cell 9
  simp only [List.getElem?_cons_zero, List.getElem?_cons_succ] at j0 j1 j2 j3 j4 j5 j6 j7 j8 j9
  have li := hI2.lt
  go_wp2_with fail
  refine (turnM pc at_ ⟨10, (q : Int), (r : Int), (kn : Int), imn, imx, is0, is1, is2, is3⟩ hM2 hC2 (by omega) (by omega) (by omega) (by simp) (by simp) (by simp) t (by simpa using HT.out.1) mv (by simpa using HT.out.2.1) HT.out.2.2 hkk).mono ?_
  rintro e w9 ⟨rfl, hmx⟩
  go_wp2_with fail
  go_end0
  refine ⟨rfl, HL2.out.mxs ?_⟩
  rw [← HNX.out, on_turn m _ ⟨pc, at_, parts, turns⟩ _ HI.out rfl]
  exact hmx
end Go.Proofs.Ytoadmpochaeohaa
