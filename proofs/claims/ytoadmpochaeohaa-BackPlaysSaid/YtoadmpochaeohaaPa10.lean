/-
  Layer 20: on, walked: operation 6.
-/
import Derived.Test.YtoadmpochaeohaaPa7
import Derived.Test.YtoadmpochaeohaaPa5
section
set_option linter.unusedVariables false
set_option linter.unusedSimpArgs false
set_option maxRecDepth 100000
namespace Go.Proofs.Ytoadmpochaeohaa
open Go.RowKit

set_option maxHeartbeats 16000000 in
theorem on6M {E D : Nat → Prop} {b g bm : Nat} {s : Stt} {m : Mc} {line : ByteArray} {pile : List Fr} {seen : List Key} {steps kept : Nat} {parts : List Pt} {turns : List Tn} {A B : Option Addr} {n cA k d : Nat} {w : World} (pc at_ : Nat) (i : Ins)
    (hM : MM w E D b g bm s m line pile seen steps kept) (hc : CfR w D parts turns A n cA B k d) (hb : pile.length ≤ 1073741000) (hi : m.ins[pc]? = some i) (hpc : pc ≤ 40000) (hat : at_ ≤ line.size) (hls : line.size ≤ 1048576) (hop : i.op = 6) (hwf : 0 ≤ i.n) (gg : Int) (hsl : m.slot[i.n.toNat]? = some gg) (hgg : gg < parts.length) (hkk : parts.length ≤ 1000) :
    Calls Try.prog 56 #[.pointer (some ⟨b, 0, none⟩), .agg #[.int .i64 pc, .int .i64 at_, .slice A n cA, .slice B k d]] w fun e w' => e = .returned (.tuple #[]) ∧ MX w E D w' b g bm s m line ((onS m line.toList ⟨pc, at_, parts, turns⟩).reverse.map .look ++ pile) seen steps kept := by
  have hlen : line.toList.length = line.size := by rw [ByteArray.toList_eq]; simp
  obtain ⟨iop, ix, iy, i_n, imn, imx, is0, is1, is2, is3⟩ := i
  simp only at hop hwf
  subst hop
  obtain ⟨kn, rfl⟩ := Int.eq_ofNat_of_zero_le hwf
  have hkl : parts.length = n := by have := hc.p.len; rw [flatP_len] at this; omega
  simp only [Int.toNat_natCast] at hsl
  have HSL := Lib.hid hsl
  clear hsl
  obtain ⟨NX, hNX⟩ : ∃ NX, (onS m line.toList ⟨pc, at_, parts, turns⟩).reverse.map Fr.look ++ pile = NX := ⟨_, rfl⟩
  rw [hNX]
  have HNX := Lib.hid hNX
  clear hNX
  have HLEN := Lib.hid hlen
  clear hlen
  have HI := Lib.hid hi
  have hX := Blk.new w [.int .i64 pc, .int .i64 at_, .slice A n cA, .slice B k d] 129
  have hf0 : Frm (fun _ => False) w (w.alloc (.cells #[.int .i64 pc, .int .i64 at_, .slice A n cA, .slice B k d] 129)) := (Frm.refl _ w).alloc _
  obtain ⟨E1, D1, hL, hM0, hC0, hEl, hDl⟩ := hM.start hc
  have HDL := Lib.hid hDl
  have hM1 := hM0.frm hf0
  have hC1 := hC0.frm hf0 (fun _ _ h => h)
  have hL1 := hL.quiet hf0
  have HEL := Lib.hid hEl
  obtain ⟨PA, pn, pcap, SA, sn, sc, MA, mn, mc, LA, ln, lc, gr, co⟩ := s
  have hPI := hM1.sta.ins
  simp only at hPI
  obtain ⟨pb, po, rfl, hpb, hpi⟩ := hPI.ins pc _ hi
  have i0 := hpi 0 _ rfl
  have i1 := hpi 1 _ rfl
  have i2 := hpi 2 _ rfl
  have i3 := hpi 3 _ rfl
  have i4 := hpi 4 _ rfl
  have i5 := hpi 5 _ rfl
  have i6 := hpi 6 _ rfl
  have i7 := hpi 7 _ rfl
  have i8 := hpi 8 _ rfl
  have i9 := hpi 9 _ rfl
  rw [Nat.add_zero] at i0
  have hpn : pc < pn := by
    have h1 := hPI.len
    rw [flatI_len] at h1
    have h2 := (List.getElem?_eq_some_iff.1 hi).1
    omega
  have b0 := hM1.obj.cell 0
  simp only [cellsB, List.getElem?_cons_zero, List.getElem?_cons_succ] at b0
  have lb := hM1.obj.lt
  have HWS : Hid (w.heap.size < (w.alloc (.cells #[.int .i64 pc, .int .i64 at_, .slice A n cA, .slice B k d] 129)).heap.size) := Lib.hid hX.lt
  clear hi hpi hPI hM hc hM0 hC0 hL hEl hDl
  go_enter Try.func56, Try.ntmps56
  go_upto_region 1 with fail
  generalize w.alloc (.cells #[.int .i64 pc, .int .i64 at_, .slice A n cA, .slice B k d] 129) = w1 at *
  generalize hbX : w.heap.size = bX at *
  have HBX := Lib.hid hbX
  clear hbX
  obtain ⟨x0, x1, x2, x3, y0, y1, y2, y3, lx⟩ := blk4 hX
  go_wp2_with fail
  go_region
  have hX2 := (hX.alloc (.cells #[.int .i64 6, .int .i64 ix, .int .i64 iy, .int .i64 (kn : Int), .int .i64 imn, .int .i64 imx, .int .u64 is0, .int .u64 is1, .int .u64 is2, .int .u64 is3] 39)).drew
  have hI2 := (Blk.new w1 [.int .i64 6, .int .i64 ix, .int .i64 iy, .int .i64 (kn : Int), .int .i64 imn, .int .i64 imx, .int .u64 is0, .int .u64 is1, .int .u64 is2, .int .u64 is3] 39).drew
  have hf12 : Frm (fun _ => False) w1 (w1.alloc (.cells #[.int .i64 6, .int .i64 ix, .int .i64 iy, .int .i64 (kn : Int), .int .i64 imn, .int .i64 imx, .int .u64 is0, .int .u64 is1, .int .u64 is2, .int .u64 is3] 39)).drew := ((Frm.refl _ w1).alloc _).drew
  have HL2 := Lib.hid (hL1.quiet hf12)
  have hM2 := hM1.frm hf12
  have hC2 := hC1.frm hf12 (fun _ _ h => h)
  clear x0 x1 x2 x3 y0 y1 y2 y3 lx i0 i1 i2 i3 i4 i5 i6 i7 i8 i9 b0 lb hpb hM1 hC1 hX hf0 hf12 hL1
  generalize (w1.alloc (.cells #[.int .i64 6, .int .i64 ix, .int .i64 iy, .int .i64 (kn : Int), .int .i64 imn, .int .i64 imx, .int .u64 is0, .int .u64 is1, .int .u64 is2, .int .u64 is3] 39)).drew = w2 at *
  obtain ⟨bI, hbI⟩ : ∃ bI, w1.heap.size = bI := ⟨_, rfl⟩
  simp only [hbI] at hI2 ⊢
  have HBI : Hid (bX < bI) := Lib.hid (by have := HWS.out; omega)
  have HEX : Hid (¬ E1 bX ∧ ¬ E1 bI) := Lib.hid ⟨fun h => by have := HEL.out _ h; omega, fun h => by have := HEL.out _ h; have := HBI.out; omega⟩
  have HSZ : Hid (bX < w2.heap.size) := Lib.hid (by have := HBI.out; have := hI2.lt; omega)
  clear hbI HWS
  have hwp : IntKind.i64.wrap ((pc : Int) + 1) = ((pc + 1 : Nat) : Int) := by rw [IntWalk.i64_in _ (by omega)]; omega
  obtain ⟨x0, x1, x2, x3, y0, y1, y2, y3, lx⟩ := blk4 hX2
  have j0 := hI2.cell 0
  have j1 := hI2.cell 1
  have j2 := hI2.cell 2
  have j3 := hI2.cell 3
  have j4 := hI2.cell 4
  have j5 := hI2.cell 5
  have j6 := hI2.cell 6
  have j7 := hI2.cell 7
  have j8 := hI2.cell 8
  have j9 := hI2.cell 9
  simp only [List.getElem?_cons_zero, List.getElem?_cons_succ] at j0 j1 j2 j3 j4 j5 j6 j7 j8 j9
  have li := hI2.lt
  have hM3 := hM2.frm ((Frm.refl _ w2).drew)
  have hC3 := hC2.frm ((Frm.refl _ w2).drew) (fun _ _ h => h)
  have hL3 := HL2.out.quiet ((Frm.refl _ w2).drew)
  have HCT : Hid (Calls Try.prog 76 #[.pointer (some ⟨b, 0, none⟩), .agg #[.int .i64 pc, .int .i64 at_, .slice A n cA, .slice B k d], .agg #[.int .i64 6, .int .i64 ix, .int .i64 iy, .int .i64 (kn : Int), .int .i64 imn, .int .i64 imx, .int .u64 is0, .int .u64 is1, .int .u64 is2, .int .u64 is3]] w2.drew fun e w3 => ∃ A' c', e = .returned (.agg #[.int .i64 pc, .int .i64 at_, .slice A' n c', .slice B k d]) ∧ Frm (fun _ => False) w2.drew w3 ∧ Hid (Calls Try.prog 75 #[.pointer (some ⟨b, 0, none⟩), .agg #[.int .i64 pc, .int .i64 at_, .slice A' n c', .slice B k d], .int .i64 ((pc + 1 : Nat) : Int)] w3 fun e w9 => e = .returned (.tuple #[]) ∧ MX w E D w9 b g bm ⟨some ⟨pb, po, none⟩, pn, pcap, SA, sn, sc, MA, mn, mc, LA, ln, lc, gr, co⟩ m line NX seen steps kept)) := Lib.hid (by
    refine (bracketC b _ SA sn sc m.slot pc at_ A B n cA k d parts ⟨6, ix, iy, (kn : Int), imn, imx, is0, is1, is2, is3⟩ kn gg _ w2.drew hM3.obj rfl hM3.sta.slot rfl HSL.out hC3.p (by omega) (by omega) (by simp)).mono ?_
    rintro e w3 ⟨A', c', rfl, hr, hf⟩
    refine ⟨A', c', rfl, hf, Lib.hid ?_⟩
    have hM4 := (hM3.frm hf).more (G := fun q => D1 q ∨ w2.drew.heap.size ≤ q) (fun q h _ => .inl h) (fun q h he => by rcases h with h | h; exact hM3.apart q h he; have := HEL.out q he; have := HSZ.out; have hrf : w2.drew.heap.size = w2.heap.size := rfl; omega)
    have hC4 : CfR w3 (fun q => D1 q ∨ w2.drew.heap.size ≤ q) (brkS parts gg 6 at_) turns A' n c' B k d := ⟨hr, (hC3.t.frm hf (fun _ _ h => h)).mono (fun q h _ => .inl h)⟩
    refine (toM pc at_ (pc + 1) hM4 hC4 (by omega)).mono ?_
    rintro e w9 ⟨rfl, hM9, hf9⟩
    refine ⟨rfl, (((hL3.quiet hf).more (G := fun q => D1 q ∨ w2.drew.heap.size ≤ q) (fun q h => .inl h)).push hf9 (fun k h => h.1)).mx ?_⟩
    have hbq := brk_eq m ⟨pc, at_, parts, turns⟩ ⟨6, ix, iy, (kn : Int), imn, imx, is0, is1, is2, is3⟩ gg (by simpa using HSL.out)
    rw [← HNX.out]
    simpa [onS, HI.out, hbq] using hM9)
  clear hM3 hC3 hL3 hM2 hC2
  go_wp2_with fail
  go_region_law (first
    | (refine step_call (f := 76) rfl rfl Try.func76 (by kernel_rfl) rfl _ (by simp only [List.map_toArray, List.map_cons, List.map_nil]; rfl) ?_; refine HCT.out.mono ?_; rintro e w3 ⟨A', c', rfl, hf3, h3⟩; refine ⟨_, rfl, ?_⟩; have x0 := (hX2.drew.frm hf3 (fun h => h)).cell 0; simp only [List.getElem?_cons_zero] at x0)
    | (refine step_call (f := 75) rfl rfl Try.func75 (by kernel_rfl) rfl _ (by simp only [List.map_toArray, List.map_cons, List.map_nil]; rfl) ?_; refine h3.out.mono ?_; rintro e w9 ⟨rfl, hmx⟩; refine ⟨_, rfl, ?_⟩))
  all_goals
    go_wp2_with fail
    go_end0
    exact ⟨rfl, hmx⟩
end Go.Proofs.Ytoadmpochaeohaa
end

section
set_option linter.unusedVariables false
set_option linter.unusedSimpArgs false
set_option maxRecDepth 100000
namespace Go.Proofs.Ytoadmpochaeohaa
open Go.RowKit

set_option maxHeartbeats 16000000 in
theorem on7M {E D : Nat → Prop} {b g bm : Nat} {s : Stt} {m : Mc} {line : ByteArray} {pile : List Fr} {seen : List Key} {steps kept : Nat} {parts : List Pt} {turns : List Tn} {A B : Option Addr} {n cA k d : Nat} {w : World} (pc at_ : Nat) (i : Ins)
    (hM : MM w E D b g bm s m line pile seen steps kept) (hc : CfR w D parts turns A n cA B k d) (hb : pile.length ≤ 1073741000) (hi : m.ins[pc]? = some i) (hpc : pc ≤ 40000) (hat : at_ ≤ line.size) (hls : line.size ≤ 1048576) (hop : i.op = 7) (hwf : 0 ≤ i.n) (gg : Int) (hsl : m.slot[i.n.toNat]? = some gg) (hgg : gg < parts.length) (hkk : parts.length ≤ 1000) :
    Calls Try.prog 56 #[.pointer (some ⟨b, 0, none⟩), .agg #[.int .i64 pc, .int .i64 at_, .slice A n cA, .slice B k d]] w fun e w' => e = .returned (.tuple #[]) ∧ MX w E D w' b g bm s m line ((onS m line.toList ⟨pc, at_, parts, turns⟩).reverse.map .look ++ pile) seen steps kept := by
  have hlen : line.toList.length = line.size := by rw [ByteArray.toList_eq]; simp
  obtain ⟨iop, ix, iy, i_n, imn, imx, is0, is1, is2, is3⟩ := i
  simp only at hop hwf
  subst hop
  obtain ⟨kn, rfl⟩ := Int.eq_ofNat_of_zero_le hwf
  have hkl : parts.length = n := by have := hc.p.len; rw [flatP_len] at this; omega
  simp only [Int.toNat_natCast] at hsl
  have HSL := Lib.hid hsl
  clear hsl
  obtain ⟨NX, hNX⟩ : ∃ NX, (onS m line.toList ⟨pc, at_, parts, turns⟩).reverse.map Fr.look ++ pile = NX := ⟨_, rfl⟩
  rw [hNX]
  have HNX := Lib.hid hNX
  clear hNX
  have HLEN := Lib.hid hlen
  clear hlen
  have HI := Lib.hid hi
  have hX := Blk.new w [.int .i64 pc, .int .i64 at_, .slice A n cA, .slice B k d] 129
  have hf0 : Frm (fun _ => False) w (w.alloc (.cells #[.int .i64 pc, .int .i64 at_, .slice A n cA, .slice B k d] 129)) := (Frm.refl _ w).alloc _
  obtain ⟨E1, D1, hL, hM0, hC0, hEl, hDl⟩ := hM.start hc
  have HDL := Lib.hid hDl
  have hM1 := hM0.frm hf0
  have hC1 := hC0.frm hf0 (fun _ _ h => h)
  have hL1 := hL.quiet hf0
  have HEL := Lib.hid hEl
  obtain ⟨PA, pn, pcap, SA, sn, sc, MA, mn, mc, LA, ln, lc, gr, co⟩ := s
  have hPI := hM1.sta.ins
  simp only at hPI
  obtain ⟨pb, po, rfl, hpb, hpi⟩ := hPI.ins pc _ hi
  have i0 := hpi 0 _ rfl
  have i1 := hpi 1 _ rfl
  have i2 := hpi 2 _ rfl
  have i3 := hpi 3 _ rfl
  have i4 := hpi 4 _ rfl
  have i5 := hpi 5 _ rfl
  have i6 := hpi 6 _ rfl
  have i7 := hpi 7 _ rfl
  have i8 := hpi 8 _ rfl
  have i9 := hpi 9 _ rfl
  rw [Nat.add_zero] at i0
  have hpn : pc < pn := by
    have h1 := hPI.len
    rw [flatI_len] at h1
    have h2 := (List.getElem?_eq_some_iff.1 hi).1
    omega
  have b0 := hM1.obj.cell 0
  simp only [cellsB, List.getElem?_cons_zero, List.getElem?_cons_succ] at b0
  have lb := hM1.obj.lt
  have HWS : Hid (w.heap.size < (w.alloc (.cells #[.int .i64 pc, .int .i64 at_, .slice A n cA, .slice B k d] 129)).heap.size) := Lib.hid hX.lt
  clear hi hpi hPI hM hc hM0 hC0 hL hEl hDl
  go_enter Try.func56, Try.ntmps56
  go_upto_region 1 with fail
  generalize w.alloc (.cells #[.int .i64 pc, .int .i64 at_, .slice A n cA, .slice B k d] 129) = w1 at *
  generalize hbX : w.heap.size = bX at *
  have HBX := Lib.hid hbX
  clear hbX
  obtain ⟨x0, x1, x2, x3, y0, y1, y2, y3, lx⟩ := blk4 hX
  go_wp2_with fail
  go_region
  have hX2 := (hX.alloc (.cells #[.int .i64 7, .int .i64 ix, .int .i64 iy, .int .i64 (kn : Int), .int .i64 imn, .int .i64 imx, .int .u64 is0, .int .u64 is1, .int .u64 is2, .int .u64 is3] 39)).drew
  have hI2 := (Blk.new w1 [.int .i64 7, .int .i64 ix, .int .i64 iy, .int .i64 (kn : Int), .int .i64 imn, .int .i64 imx, .int .u64 is0, .int .u64 is1, .int .u64 is2, .int .u64 is3] 39).drew
  have hf12 : Frm (fun _ => False) w1 (w1.alloc (.cells #[.int .i64 7, .int .i64 ix, .int .i64 iy, .int .i64 (kn : Int), .int .i64 imn, .int .i64 imx, .int .u64 is0, .int .u64 is1, .int .u64 is2, .int .u64 is3] 39)).drew := ((Frm.refl _ w1).alloc _).drew
  have HL2 := Lib.hid (hL1.quiet hf12)
  have hM2 := hM1.frm hf12
  have hC2 := hC1.frm hf12 (fun _ _ h => h)
  clear x0 x1 x2 x3 y0 y1 y2 y3 lx i0 i1 i2 i3 i4 i5 i6 i7 i8 i9 b0 lb hpb hM1 hC1 hX hf0 hf12 hL1
  generalize (w1.alloc (.cells #[.int .i64 7, .int .i64 ix, .int .i64 iy, .int .i64 (kn : Int), .int .i64 imn, .int .i64 imx, .int .u64 is0, .int .u64 is1, .int .u64 is2, .int .u64 is3] 39)).drew = w2 at *
  obtain ⟨bI, hbI⟩ : ∃ bI, w1.heap.size = bI := ⟨_, rfl⟩
  simp only [hbI] at hI2 ⊢
  have HBI : Hid (bX < bI) := Lib.hid (by have := HWS.out; omega)
  have HEX : Hid (¬ E1 bX ∧ ¬ E1 bI) := Lib.hid ⟨fun h => by have := HEL.out _ h; omega, fun h => by have := HEL.out _ h; have := HBI.out; omega⟩
  have HSZ : Hid (bX < w2.heap.size) := Lib.hid (by have := HBI.out; have := hI2.lt; omega)
  clear hbI HWS
  have hwp : IntKind.i64.wrap ((pc : Int) + 1) = ((pc + 1 : Nat) : Int) := by rw [IntWalk.i64_in _ (by omega)]; omega
  obtain ⟨x0, x1, x2, x3, y0, y1, y2, y3, lx⟩ := blk4 hX2
  have j0 := hI2.cell 0
  have j1 := hI2.cell 1
  have j2 := hI2.cell 2
  have j3 := hI2.cell 3
  have j4 := hI2.cell 4
  have j5 := hI2.cell 5
  have j6 := hI2.cell 6
  have j7 := hI2.cell 7
  have j8 := hI2.cell 8
  have j9 := hI2.cell 9
  simp only [List.getElem?_cons_zero, List.getElem?_cons_succ] at j0 j1 j2 j3 j4 j5 j6 j7 j8 j9
  have li := hI2.lt
  have hM3 := hM2.frm ((Frm.refl _ w2).drew)
  have hC3 := hC2.frm ((Frm.refl _ w2).drew) (fun _ _ h => h)
  have hL3 := HL2.out.quiet ((Frm.refl _ w2).drew)
  have HCT : Hid (Calls Try.prog 76 #[.pointer (some ⟨b, 0, none⟩), .agg #[.int .i64 pc, .int .i64 at_, .slice A n cA, .slice B k d], .agg #[.int .i64 7, .int .i64 ix, .int .i64 iy, .int .i64 (kn : Int), .int .i64 imn, .int .i64 imx, .int .u64 is0, .int .u64 is1, .int .u64 is2, .int .u64 is3]] w2.drew fun e w3 => ∃ A' c', e = .returned (.agg #[.int .i64 pc, .int .i64 at_, .slice A' n c', .slice B k d]) ∧ Frm (fun _ => False) w2.drew w3 ∧ Hid (Calls Try.prog 75 #[.pointer (some ⟨b, 0, none⟩), .agg #[.int .i64 pc, .int .i64 at_, .slice A' n c', .slice B k d], .int .i64 ((pc + 1 : Nat) : Int)] w3 fun e w9 => e = .returned (.tuple #[]) ∧ MX w E D w9 b g bm ⟨some ⟨pb, po, none⟩, pn, pcap, SA, sn, sc, MA, mn, mc, LA, ln, lc, gr, co⟩ m line NX seen steps kept)) := Lib.hid (by
    refine (bracketC b _ SA sn sc m.slot pc at_ A B n cA k d parts ⟨7, ix, iy, (kn : Int), imn, imx, is0, is1, is2, is3⟩ kn gg _ w2.drew hM3.obj rfl hM3.sta.slot rfl HSL.out hC3.p (by omega) (by omega) (by simp)).mono ?_
    rintro e w3 ⟨A', c', rfl, hr, hf⟩
    refine ⟨A', c', rfl, hf, Lib.hid ?_⟩
    have hM4 := (hM3.frm hf).more (G := fun q => D1 q ∨ w2.drew.heap.size ≤ q) (fun q h _ => .inl h) (fun q h he => by rcases h with h | h; exact hM3.apart q h he; have := HEL.out q he; have := HSZ.out; have hrf : w2.drew.heap.size = w2.heap.size := rfl; omega)
    have hC4 : CfR w3 (fun q => D1 q ∨ w2.drew.heap.size ≤ q) (brkS parts gg 7 at_) turns A' n c' B k d := ⟨hr, (hC3.t.frm hf (fun _ _ h => h)).mono (fun q h _ => .inl h)⟩
    refine (toM pc at_ (pc + 1) hM4 hC4 (by omega)).mono ?_
    rintro e w9 ⟨rfl, hM9, hf9⟩
    refine ⟨rfl, (((hL3.quiet hf).more (G := fun q => D1 q ∨ w2.drew.heap.size ≤ q) (fun q h => .inl h)).push hf9 (fun k h => h.1)).mx ?_⟩
    have hbq := brk_eq m ⟨pc, at_, parts, turns⟩ ⟨7, ix, iy, (kn : Int), imn, imx, is0, is1, is2, is3⟩ gg (by simpa using HSL.out)
    rw [← HNX.out]
    simpa [onS, HI.out, hbq] using hM9)
  clear hM3 hC3 hL3 hM2 hC2
  go_wp2_with fail
  go_region_law (first
    | (refine step_call (f := 76) rfl rfl Try.func76 (by kernel_rfl) rfl _ (by simp only [List.map_toArray, List.map_cons, List.map_nil]; rfl) ?_; refine HCT.out.mono ?_; rintro e w3 ⟨A', c', rfl, hf3, h3⟩; refine ⟨_, rfl, ?_⟩; have x0 := (hX2.drew.frm hf3 (fun h => h)).cell 0; simp only [List.getElem?_cons_zero] at x0)
    | (refine step_call (f := 75) rfl rfl Try.func75 (by kernel_rfl) rfl _ (by simp only [List.map_toArray, List.map_cons, List.map_nil]; rfl) ?_; refine h3.out.mono ?_; rintro e w9 ⟨rfl, hmx⟩; refine ⟨_, rfl, ?_⟩))
  all_goals
    go_wp2_with fail
    go_end0
    exact ⟨rfl, hmx⟩
end Go.Proofs.Ytoadmpochaeohaa
end

section
set_option linter.unusedVariables false
set_option linter.unusedSimpArgs false
set_option maxRecDepth 100000
namespace Go.Proofs.Ytoadmpochaeohaa
open Go.RowKit

set_option maxHeartbeats 16000000 in
theorem on8M {E D : Nat → Prop} {b g bm : Nat} {s : Stt} {m : Mc} {line : ByteArray} {pile : List Fr} {seen : List Key} {steps kept : Nat} {parts : List Pt} {turns : List Tn} {A B : Option Addr} {n cA k d : Nat} {w : World} (pc at_ : Nat) (i : Ins)
    (hM : MM w E D b g bm s m line pile seen steps kept) (hc : CfR w D parts turns A n cA B k d) (hb : pile.length ≤ 1073741000) (hi : m.ins[pc]? = some i) (hpc : pc ≤ 40000) (hat : at_ ≤ line.size) (hls : line.size ≤ 1048576) (hop : i.op = 8) (hwf : 0 ≤ i.n) (gg : Nat) (p : Pt) (hsl : m.slot[i.n.toNat]? = some (gg : Int)) (hp : parts[gg]? = some p) (hf1 : -1 ≤ p.frm ∧ p.frm ≤ line.size) (hf2 : -1 ≤ p.til ∧ p.til ≤ line.size) (hf3 : 0 ≤ p.frm → p.frm ≤ p.til) :
    Calls Try.prog 56 #[.pointer (some ⟨b, 0, none⟩), .agg #[.int .i64 pc, .int .i64 at_, .slice A n cA, .slice B k d]] w fun e w' => e = .returned (.tuple #[]) ∧ MX w E D w' b g bm s m line ((onS m line.toList ⟨pc, at_, parts, turns⟩).reverse.map .look ++ pile) seen steps kept := by
  have hlen : line.toList.length = line.size := by rw [ByteArray.toList_eq]; simp
  obtain ⟨iop, ix, iy, i_n, imn, imx, is0, is1, is2, is3⟩ := i
  simp only at hop hwf
  subst hop
  obtain ⟨kn, rfl⟩ := Int.eq_ofNat_of_zero_le hwf
  simp only [Int.toNat_natCast] at hsl
  have HSL := Lib.hid (⟨hsl, hp, hf1, hf2, hf3⟩ : _ ∧ _ ∧ _ ∧ _ ∧ _)
  obtain ⟨r, hr⟩ : ∃ r, againV m.fold line.toList at_ p = r := ⟨_, rfl⟩
  have HR := Lib.hid hr
  clear hsl hp hr hf1 hf2 hf3
  obtain ⟨NX, hNX⟩ : ∃ NX, (onS m line.toList ⟨pc, at_, parts, turns⟩).reverse.map Fr.look ++ pile = NX := ⟨_, rfl⟩
  rw [hNX]
  have HNX := Lib.hid hNX
  clear hNX
  have HLEN := Lib.hid hlen
  clear hlen
  have HI := Lib.hid hi
  have hX := Blk.new w [.int .i64 pc, .int .i64 at_, .slice A n cA, .slice B k d] 129
  have hf0 : Frm (fun _ => False) w (w.alloc (.cells #[.int .i64 pc, .int .i64 at_, .slice A n cA, .slice B k d] 129)) := (Frm.refl _ w).alloc _
  obtain ⟨E1, D1, hL, hM0, hC0, hEl, hDl⟩ := hM.start hc
  have HDL := Lib.hid hDl
  have hM1 := hM0.frm hf0
  have hC1 := hC0.frm hf0 (fun _ _ h => h)
  have hL1 := hL.quiet hf0
  have HEL := Lib.hid hEl
  obtain ⟨PA, pn, pcap, SA, sn, sc, MA, mn, mc, LA, ln, lc, gr, co⟩ := s
  have hPI := hM1.sta.ins
  simp only at hPI
  obtain ⟨pb, po, rfl, hpb, hpi⟩ := hPI.ins pc _ hi
  have i0 := hpi 0 _ rfl
  have i1 := hpi 1 _ rfl
  have i2 := hpi 2 _ rfl
  have i3 := hpi 3 _ rfl
  have i4 := hpi 4 _ rfl
  have i5 := hpi 5 _ rfl
  have i6 := hpi 6 _ rfl
  have i7 := hpi 7 _ rfl
  have i8 := hpi 8 _ rfl
  have i9 := hpi 9 _ rfl
  rw [Nat.add_zero] at i0
  have hpn : pc < pn := by
    have h1 := hPI.len
    rw [flatI_len] at h1
    have h2 := (List.getElem?_eq_some_iff.1 hi).1
    omega
  have b0 := hM1.obj.cell 0
  simp only [cellsB, List.getElem?_cons_zero, List.getElem?_cons_succ] at b0
  have lb := hM1.obj.lt
  have HWS : Hid (w.heap.size < (w.alloc (.cells #[.int .i64 pc, .int .i64 at_, .slice A n cA, .slice B k d] 129)).heap.size) := Lib.hid hX.lt
  clear hi hpi hPI hM hc hM0 hC0 hL hEl hDl
  go_enter Try.func56, Try.ntmps56
  go_upto_region 1 with fail
  generalize w.alloc (.cells #[.int .i64 pc, .int .i64 at_, .slice A n cA, .slice B k d] 129) = w1 at *
  generalize hbX : w.heap.size = bX at *
  have HBX := Lib.hid hbX
  clear hbX
  obtain ⟨x0, x1, x2, x3, y0, y1, y2, y3, lx⟩ := blk4 hX
  go_wp2_with fail
  go_region
  have hX2 := (hX.alloc (.cells #[.int .i64 8, .int .i64 ix, .int .i64 iy, .int .i64 (kn : Int), .int .i64 imn, .int .i64 imx, .int .u64 is0, .int .u64 is1, .int .u64 is2, .int .u64 is3] 39)).drew
  have hI2 := (Blk.new w1 [.int .i64 8, .int .i64 ix, .int .i64 iy, .int .i64 (kn : Int), .int .i64 imn, .int .i64 imx, .int .u64 is0, .int .u64 is1, .int .u64 is2, .int .u64 is3] 39).drew
  have hf12 : Frm (fun _ => False) w1 (w1.alloc (.cells #[.int .i64 8, .int .i64 ix, .int .i64 iy, .int .i64 (kn : Int), .int .i64 imn, .int .i64 imx, .int .u64 is0, .int .u64 is1, .int .u64 is2, .int .u64 is3] 39)).drew := ((Frm.refl _ w1).alloc _).drew
  have HL2 := Lib.hid (hL1.quiet hf12)
  have hM2 := hM1.frm hf12
  have hC2 := hC1.frm hf12 (fun _ _ h => h)
  clear x0 x1 x2 x3 y0 y1 y2 y3 lx i0 i1 i2 i3 i4 i5 i6 i7 i8 i9 b0 lb hpb hM1 hC1 hX hf0 hf12 hL1
  generalize (w1.alloc (.cells #[.int .i64 8, .int .i64 ix, .int .i64 iy, .int .i64 (kn : Int), .int .i64 imn, .int .i64 imx, .int .u64 is0, .int .u64 is1, .int .u64 is2, .int .u64 is3] 39)).drew = w2 at *
  obtain ⟨bI, hbI⟩ : ∃ bI, w1.heap.size = bI := ⟨_, rfl⟩
  simp only [hbI] at hI2 ⊢
  have HBI : Hid (bX < bI) := Lib.hid (by have := HWS.out; omega)
  have HEX : Hid (¬ E1 bX ∧ ¬ E1 bI) := Lib.hid ⟨fun h => by have := HEL.out _ h; omega, fun h => by have := HEL.out _ h; have := HBI.out; omega⟩
  have HSZ : Hid (bX < w2.heap.size) := Lib.hid (by have := HBI.out; have := hI2.lt; omega)
  clear hbI HWS
  have hwp : IntKind.i64.wrap ((pc : Int) + 1) = ((pc + 1 : Nat) : Int) := by rw [IntWalk.i64_in _ (by omega)]; omega
  obtain ⟨x0, x1, x2, x3, y0, y1, y2, y3, lx⟩ := blk4 hX2
  have j0 := hI2.cell 0
  have j1 := hI2.cell 1
  have j2 := hI2.cell 2
  have j3 := hI2.cell 3
  have j4 := hI2.cell 4
  have j5 := hI2.cell 5
  have j6 := hI2.cell 6
  have j7 := hI2.cell 7
  have j8 := hI2.cell 8
  have j9 := hI2.cell 9
  simp only [List.getElem?_cons_zero, List.getElem?_cons_succ] at j0 j1 j2 j3 j4 j5 j6 j7 j8 j9
  have li := hI2.lt
  have hsr := hM2.sta.slot
  simp only at hsr
  obtain ⟨sb, so, rfl, hsb, hsc⟩ := hsr.elem kn (by have := hsr.len; rw [List.length_map] at this; have := (List.getElem?_eq_some_iff.1 HSL.out.1).1; omega)
  have s0 := hsc 0 (.int .i64 gg) (by rw [Nat.mul_one, Nat.add_zero, List.getElem?_map, HSL.out.1]; rfl)
  rw [Nat.mul_one, Nat.add_zero] at s0
  have hks : kn < sn := by have := hsr.len; rw [List.length_map] at this; have := (List.getElem?_eq_some_iff.1 HSL.out.1).1; omega
  have b5 := hM2.obj.cell 5
  have b10 := hM2.obj.cell 10
  simp only [cellsB, List.getElem?_cons_zero, List.getElem?_cons_succ] at b5 b10
  have lb := hM2.obj.lt
  have hM3 := hM2.frm ((Frm.refl _ w2).drew)
  have hC3 := hC2.frm ((Frm.refl _ w2).drew) (fun _ _ h => h)
  have HL3 := Lib.hid (HL2.out.quiet ((Frm.refl _ w2).drew))
  have HCT : Hid (Calls Try.prog 77 #[.pointer (some ⟨b, 0, none⟩), .agg #[.int .i64 pc, .int .i64 at_, .slice A n cA, .slice B k d], .int .i64 gg] w2.drew fun e w3 => e = .returned (agVal r) ∧ Frm (fun _ => False) w2.drew w3) := Lib.hid (by
    have h := againC b _ line m.fold pc at_ A B n cA k d parts gg p _ w2.drew hM3.obj rfl rfl hC3.p HSL.out.2.1 hat (by omega) HSL.out.2.2.1 HSL.out.2.2.2.1 HSL.out.2.2.2.2
    rw [HR.out] at h
    exact h)
  have HMC := Lib.hid (⟨hM3, hC3⟩ : _ ∧ _)
  clear hM3 hC3 hM2 hC2 hsr hsc
  have hrr : ∀ (c : Cf), c = ⟨pc, at_, parts, turns⟩ → againS m line.toList c gg = r := by
    rintro c rfl
    unfold againS
    simp only [HSL.out.2.1]
    rw [← HR.out]
    rfl
  have HRR := Lib.hid hrr
  clear hrr
  cases r with
  | none =>
    simp only [agVal] at HCT
    go_wp2_with fail
    go_region_law (refine step_call (f := 77) rfl rfl Try.func77 (by kernel_rfl) rfl _ (by simp only [List.map_toArray, List.map_cons, List.map_nil]; rfl) ?_; refine HCT.out.mono ?_; rintro e w3 ⟨rfl, hf3⟩; refine ⟨_, rfl, ?_⟩)
    all_goals
      go_wp2_with fail
      go_end0
      refine ⟨rfl, (HL3.out.quiet hf3).mx ?_⟩
      rw [← HNX.out]
      have h1 := HRR.out ⟨pc, at_, parts, turns⟩ rfl
      simpa [onS, HI.out, HSL.out.1, h1] using HMC.out.1.frm hf3
  | some N =>
    simp only [agVal] at HCT
    have HN : Hid (N ≤ 1048576) := Lib.hid (by
      have h1 := HR.out
      unfold againV at h1
      split at h1
      · cases h1
      · split at h1
        · injection h1 with h1; have := HSL.out; omega
        · cases h1)
    go_wp2_with fail
    go_region_law (refine step_call (f := 77) rfl rfl Try.func77 (by kernel_rfl) rfl _ (by simp only [List.map_toArray, List.map_cons, List.map_nil]; rfl) ?_; refine HCT.out.mono ?_; rintro e w3 ⟨rfl, hf3⟩; refine ⟨_, rfl, ?_⟩)
    all_goals
      have hM3 := HMC.out.1.frm hf3
      have hC3 := HMC.out.2.frm hf3 (fun _ _ h => h)
      have HL3 := Lib.hid (HL3.out.quiet hf3)
      have hX3 := hX2.drew.frm hf3 (fun h => h)
      have hnn := HN.out
      clear x0 x1 x2 x3 y0 y1 y2 y3 lx j0 j1 j2 j3 j4 j5 j6 j7 j8 j9 li s0 hsb b5 b10 lb hX2 hI2
      obtain ⟨x0, x1, x2, x3, y0, y1, y2, y3, lx⟩ := blk4 hX3
      obtain ⟨a2, ha2⟩ : ∃ a2 : Nat, at_ + N = a2 := ⟨_, rfl⟩
      have hwa : IntKind.i64.wrap ((at_ : Int) + (N : Nat)) = (a2 : Int) := by rw [IntWalk.i64_in _ (by omega)]; omega
      have HA2 := Lib.hid ha2
      clear ha2
      have hf4 : Frm (fun k => k = bX) w3 (w3.setCell ⟨bX, 1, none⟩ (.int .i64 (a2 : Int))) := (Frm.refl _ w3).set bX 1 _ (fun _ => rfl)
      have hM4 := hM3.frmS hf4 (fun q hq h => HEX.out.1 (h ▸ hq)) (fun q hq h => by have := HDL.out q hq; omega)
      have hC4 := hC3.frm hf4 (fun q hq h => by have := HDL.out q hq; omega)
      have HL4 := Lib.hid (HL3.out.quietS hf4 (fun q h => by have := HBX.out; omega))
      have hX4 := hX3.setSame 1 (.int .i64 (a2 : Int))
      simp only [List.set_cons_succ, List.set_cons_zero] at hX4
      clear hM3 hC3 hf4 HMC
      go_upto_region 25 with fail
      clear x0 x1 x2 x3 y0 y1 y2 y3 lx hwa
      generalize w3.setCell ⟨bX, 1, none⟩ (.int .i64 (a2 : Int)) = w4 at *
      obtain ⟨x0, x1, x2, x3, y0, y1, y2, y3, lx⟩ := blk4 hX4
      go_wp2_with fail
      refine (toM pc a2 (pc + 1) hM4 hC4 (by omega)).mono ?_
      rintro e w9 ⟨rfl, hM9, hf9⟩
      go_wp2_with fail
      go_end0
      refine ⟨rfl, (HL4.out.push hf9 (fun k h => h.1)).mx ?_⟩
      rw [← HNX.out]
      have h1 := HRR.out ⟨pc, at_, parts, turns⟩ rfl
      simpa [onS, HI.out, HSL.out.1, h1, HA2.out] using hM9
end Go.Proofs.Ytoadmpochaeohaa
end
