/-
  Layer 20: turn, walked.
-/
import Derived.Test.YtoadmpochaeohaaPa7
import Derived.Deep.RegionHeld3
import Derived.Test.YtoadmpochaeohaaPa5
section
set_option linter.unusedVariables false
set_option linter.unusedSimpArgs false
set_option maxRecDepth 100000
namespace Go.Proofs.Ytoadmpochaeohaa
open Go.RowKit

/-- Where a turn leads, what is looked at last first. -/
def turnS (m : Mc) (i : Ins) (c : Cf) : List Cf :=
  let t := c.turns.getD i.n.toNat ⟨0, -1⟩
  if i.mn < t.many ∧ t.began = c.at_ then [] else
    (if i.mn ≤ t.many then [{ c with pc := i.y.toNat }] else []) ++
    (if i.mx = -1 ∨ t.many < i.mx then [{ countS c i.n.toNat ⟨min (t.many + 1) (m.most.getD i.n.toNat 0), c.at_⟩ with pc := i.x.toNat }] else [])

/-- The second half. -/
def TwoOk (w : World) (bX bI bT b mb mo kn : Nat) (pc at_ q : Nat) (A B : Option Addr) (n cA k d : Nat) (MA : Option Addr) (mn mc : Nat) (tm tb mv : Int) : Prop :=
  (w.cell? ⟨bX, 0, none⟩ = some (.int .i64 pc) ∧ w.cell? ⟨bX, 1, none⟩ = some (.int .i64 at_) ∧ w.cell? ⟨bX, 2, none⟩ = some (.slice A n cA) ∧ w.cell? ⟨bX, 3, none⟩ = some (.slice B k d)) ∧
  (w.cell? ⟨bI, 1, none⟩ = some (.int .i64 q) ∧ w.cell? ⟨bI, 3, none⟩ = some (.int .i64 kn)) ∧ (w.cell? ⟨bT, 0, none⟩ = some (.int .i64 tm) ∧ w.cell? ⟨bT, 1, none⟩ = some (.int .i64 tb)) ∧
  w.cell? ⟨b, 6, none⟩ = some (.slice (some ⟨mb, mo, none⟩) mn mc) ∧ w.cell? ⟨mb, mo + kn, none⟩ = some (.int .i64 mv)

set_option maxHeartbeats 16000000 in
theorem turnM {E D : Nat → Prop} {b g bm : Nat} {s : Stt} {m : Mc} {line : ByteArray} {pile : List Fr} {seen : List Key} {steps kept : Nat} {parts : List Pt} {turns : List Tn} {A B : Option Addr} {n cA k d : Nat} {w : World} (pc at_ : Nat) (i : Ins)
    (hM : MM w E D b g bm s m line pile seen steps kept) (hc : CfR w D parts turns A n cA B k d) (hb : pile.length ≤ 1073741000) (hpc : pc ≤ 40000) (hat : at_ ≤ 1048576)
    (hwx : 0 ≤ i.x) (hwy : 0 ≤ i.y) (hwn : 0 ≤ i.n) (t : Tn) (ht : turns[i.n.toNat]? = some t) (mv : Int) (hmv : m.most[i.n.toNat]? = some mv) (htm : 0 ≤ t.many ∧ t.many ≤ 1048576) (hkk : turns.length ≤ 1000) :
    Calls Try.prog 79 #[.pointer (some ⟨b, 0, none⟩), .agg #[.int .i64 pc, .int .i64 at_, .slice A n cA, .slice B k d], i.val] w fun e w' => e = .returned (.tuple #[]) ∧ MX w E D w' b g bm s m line ((turnS m i ⟨pc, at_, parts, turns⟩).reverse.map .look ++ pile) seen steps kept := by
  obtain ⟨iop, ix, iy, i_n, imn, imx, is0, is1, is2, is3⟩ := i
  simp only at hwx hwy hwn ht hmv
  simp only [Ins.val]
  obtain ⟨tm, tb⟩ := t
  simp only at htm
  obtain ⟨q, rfl⟩ := Int.eq_ofNat_of_zero_le hwx
  obtain ⟨r, rfl⟩ := Int.eq_ofNat_of_zero_le hwy
  obtain ⟨kn, rfl⟩ := Int.eq_ofNat_of_zero_le hwn
  simp only [Int.toNat_natCast] at ht hmv
  have htk : turns.length = k := by have := hc.t.len; rw [flatN_len] at this; omega
  obtain ⟨NX, hNX⟩ : ∃ NX, (turnS m ⟨iop, (q : Int), (r : Int), (kn : Int), imn, imx, is0, is1, is2, is3⟩ ⟨pc, at_, parts, turns⟩).reverse.map Fr.look ++ pile = NX := ⟨_, rfl⟩
  rw [hNX]
  have hN2 : (if imn < tm ∧ tb = at_ then [] else (if imn ≤ tm then [(⟨r, at_, parts, turns⟩ : Cf)] else []) ++ (if imx = -1 ∨ tm < imx then [⟨q, at_, parts, turns.set kn ⟨min (tm + 1) mv, at_⟩⟩] else [])).reverse.map Fr.look ++ pile = NX := by
    rw [← hNX]
    simp [turnS, countS, List.getD_eq_getElem?_getD, ht, hmv]
  have HNX := Lib.hid hN2
  clear hNX hN2
  have hX0 := Blk.new w [.int .i64 pc, .int .i64 at_, .slice A n cA, .slice B k d] 129
  have hI0 := Blk.new (w.alloc (.cells #[.int .i64 pc, .int .i64 at_, .slice A n cA, .slice B k d] 129)) [.int .i64 iop, .int .i64 (q : Int), .int .i64 (r : Int), .int .i64 (kn : Int), .int .i64 imn, .int .i64 imx, .int .u64 is0, .int .u64 is1, .int .u64 is2, .int .u64 is3] 39
  have hX := hX0.alloc (.cells #[.int .i64 iop, .int .i64 (q : Int), .int .i64 (r : Int), .int .i64 (kn : Int), .int .i64 imn, .int .i64 imx, .int .u64 is0, .int .u64 is1, .int .u64 is2, .int .u64 is3] 39)
  have hf0 : Frm (fun _ => False) w ((w.alloc (.cells #[.int .i64 pc, .int .i64 at_, .slice A n cA, .slice B k d] 129)).alloc (.cells #[.int .i64 iop, .int .i64 (q : Int), .int .i64 (r : Int), .int .i64 (kn : Int), .int .i64 imn, .int .i64 imx, .int .u64 is0, .int .u64 is1, .int .u64 is2, .int .u64 is3] 39)) := ((Frm.refl _ w).alloc _).alloc _
  obtain ⟨E1, D1, hL, hM0, hC0, hEl, hDl⟩ := hM.start hc
  have hsz1 : (w.alloc (.cells #[.int .i64 pc, .int .i64 at_, .slice A n cA, .slice B k d] 129)).heap.size = w.heap.size + 1 := by unfold World.alloc; exact Array.size_push _
  rw [hsz1] at hI0
  have HDL := Lib.hid hDl
  have HEL := Lib.hid hEl
  have HLT := Lib.hid hI0.lt
  have hM1 := hM0.frm hf0
  have hC1 := hC0.frm hf0 (fun _ _ h => h)
  have hL1 := hL.quiet hf0
  have hkn : kn < k := by have := (List.getElem?_eq_some_iff.1 ht).1; omega
  obtain ⟨e1, e2⟩ := flatN_get turns kn _ ht
  obtain ⟨tb_, to_, rfl, htb, htc⟩ := hC1.t.elem kn hkn
  have p0 := htc 0 _ e1
  have p1 := htc 1 _ e2
  rw [Nat.add_zero] at p0
  have HT := Lib.hid (⟨ht, hmv⟩ : _ ∧ _)
  clear hM hM0 hC0 hL hEl hDl hc htc e1 e2 hX0 ht hmv hsz1
  go_enter Try.func79, Try.ntmps79
  go_upto_region 1 with fail
  generalize (w.alloc (.cells #[.int .i64 pc, .int .i64 at_, .slice A n cA, .slice (some ⟨tb_, to_, none⟩) k d] 129)).alloc (.cells #[.int .i64 iop, .int .i64 (q : Int), .int .i64 (r : Int), .int .i64 (kn : Int), .int .i64 imn, .int .i64 imx, .int .u64 is0, .int .u64 is1, .int .u64 is2, .int .u64 is3] 39) = w1 at *
  generalize hbX : w.heap.size = bX at *
  generalize hbI : bX + 1 = bI at *
  have HBX := Lib.hid (⟨hbX, hbI⟩ : _ ∧ _)
  clear hbX hbI
  obtain ⟨x0, x1, x2, x3, y0, y1, y2, y3, lx⟩ := blk4 hX
  have j3 := hI0.cell 3
  simp only [List.getElem?_cons_zero, List.getElem?_cons_succ] at j3
  have li := hI0.lt
  have hT := Blk.new w1 [.int .i64 tm, .int .i64 tb] 133
  have hX2 := hX.alloc (.cells #[.int .i64 tm, .int .i64 tb] 133)
  have hI2 := hI0.alloc (.cells #[.int .i64 tm, .int .i64 tb] 133)
  have hf12 : Frm (fun _ => False) w1 (w1.alloc (.cells #[.int .i64 tm, .int .i64 tb] 133)) := (Frm.refl _ w1).alloc _
  have hM2 := hM1.frm hf12
  have hC2 := hC1.frm hf12 (fun _ _ h => h)
  have HL2 := Lib.hid (hL1.quiet hf12)
  clear hM1 hC1 hL1
  go_upto_region 2 with fail
  generalize w1.alloc (.cells #[.int .i64 tm, .int .i64 tb] 133) = w2 at *
  clear x0 x1 x2 x3 y0 y1 y2 y3 lx j3 li p0 p1 htb hX hI0 hf0 hf12
  obtain ⟨bT, hbT⟩ : ∃ bT, w1.heap.size = bT := ⟨_, rfl⟩
  simp only [hbT] at hT ⊢
  have HSZ : Hid (bX < bI ∧ bI < bT ∧ bT < w2.heap.size) := Lib.hid ⟨by have := HBX.out; omega, by have := HLT.out; omega, hT.lt⟩
  clear hbT HLT
  have HEX : Hid (¬ E1 bX ∧ ¬ E1 bI ∧ ¬ E1 bT) := Lib.hid ⟨fun h => by have := HEL.out _ h; omega, fun h => by have := HEL.out _ h; have := HSZ.out; omega, fun h => by have := HEL.out _ h; have := HSZ.out; omega⟩
  obtain ⟨x0, x1, x2, x3, y0, y1, y2, y3, lx⟩ := blk4 hX2
  have j1 := hI2.cell 1
  have j2 := hI2.cell 2
  have j3 := hI2.cell 3
  have j4 := hI2.cell 4
  have j5 := hI2.cell 5
  have t0 := hT.cell 0
  have t1 := hT.cell 1
  simp only [List.getElem?_cons_zero, List.getElem?_cons_succ] at j1 j2 j3 j4 j5 t0 t1
  have li := hI2.lt
  have lt_ := hT.lt
  by_cases hout : imn < tm ∧ tb = at_
  · obtain ⟨h1, rfl⟩ := hout
    have d1 : decide (imn < tm) = true := decide_eq_true h1
    go_wp2_with fail
    (try simp only [Exit.inBlock, Exit.then])
    refine bodyPost_ret (results_none rfl _ _ _) rfl ?_
    refine ⟨rfl, HL2.out.mx ?_⟩
    rw [← HNX.out, if_pos (by simp [h1])]
    exact hM2
  · have hnx := HNX.out
    rw [if_neg hout] at hnx
    have HN2 := Lib.hid hnx
    clear HNX hnx
    obtain ⟨xb, hxb⟩ : ∃ xb, decide (imx = -1 ∨ tm < imx) = xb := ⟨_, rfl⟩
    have HXB := Lib.hid hxb
    clear hxb
    go_cut [24] from 13 to 24 (fun v wx => v = .bool false ∧ wx = w2)
    case first =>
      by_cases h1 : imn < tm
      · have d1 : decide (imn < tm) = true := decide_eq_true h1
        have d2 : (tb == (at_ : Int)) = false := by simpa using fun h => hout ⟨h1, h⟩
        go_wp2_with fail
        go_meet
        exact ⟨rfl, rfl⟩
      · have d1 : decide (imn < tm) = false := decide_eq_false h1
        go_wp2_with fail
        go_meet
        exact ⟨rfl, rfl⟩
    case rest =>
      obtain ⟨rfl, hw⟩ := hcut
      have hw2 := hw.symm
      subst hw2
      by_cases hle : imn ≤ tm
      · have d2 : decide (imn ≤ tm) = true := decide_eq_true hle
        have HN3 := HN2.out
        rw [if_pos hle] at HN3
        have HN2 := Lib.hid HN3
        clear HN3
        go_wp2_with fail
        refine (toM pc at_ r hM2 hC2 (by omega)).mono ?_
        rintro e w3 ⟨rfl, hM3, hf3⟩
        have HL3 := Lib.hid (HL2.out.push hf3 (fun k h => h.1))
        have hX3 := hX2.frm hf3 (fun h => HEX.out.1 h.1)
        have hI3 := hI2.frm hf3 (fun h => HEX.out.2.1 h.1)
        have hT3 := hT.frm hf3 (fun h => HEX.out.2.2 h.1)
        have hC3 := (hC2.mono (G := fun k => D1 k ∧ k < w2.heap.size) (fun k h l => ⟨h, l⟩)).frm hf3 (fun k h e => hM2.apart k h.1 e.1)
        obtain ⟨E3, D3, hM3, hC3, HL3, HE3, HEX3⟩ : ∃ E3 D3, MM w3 E3 D3 b g bm s m line (.look ⟨r, at_, parts, turns⟩ :: pile) seen steps kept ∧ CfR w3 D3 parts turns A n cA (some ⟨tb_, to_, none⟩) k d ∧ Hid (Lk w E D w3 E3 D3) ∧ Hid (∀ k, E3 k → k < w3.heap.size) ∧ Hid (¬ E3 bX ∧ ¬ E3 bI ∧ ¬ E3 bT) :=
          ⟨_, _, hM3.low, hC3.mono (fun k h l => ⟨h, l⟩), Lib.hid HL3.out.low, Lib.hid fun k h => h.2, Lib.hid ⟨fun h => by have h1 := HEX.out.1; have h2 := HSZ.out; rcases h.1 with h | h; exact h1 h; omega, fun h => by have h1 := HEX.out.2.1; have h2 := HSZ.out; rcases h.1 with h | h; exact h1 h; omega, fun h => by have h1 := HEX.out.2.2; have h2 := HSZ.out; rcases h.1 with h | h; exact h1 h; omega⟩⟩
        clear x0 x1 x2 x3 y0 y1 y2 y3 lx j1 j2 j3 j4 j5 t0 t1 li lt_ hX2 hI2 hT hM2 hC2 hf3
        obtain ⟨x0, x1, x2, x3, y0, y1, y2, y3, lx⟩ := blk4 hX3
        have j1 := hI3.cell 1
        have j2 := hI3.cell 2
        have j3 := hI3.cell 3
        have j4 := hI3.cell 4
        have j5 := hI3.cell 5
        have t0 := hT3.cell 0
        have t1 := hT3.cell 1
        simp only [List.getElem?_cons_zero, List.getElem?_cons_succ] at j1 j2 j3 j4 j5 t0 t1
        have li := hI3.lt
        have lt_ := hT3.lt
        go_upto_region 5 with fail
        go_cut [44] from 35 to 44 (fun v wx => v = .bool xb ∧ wx = w3)
        case first =>
          by_cases hm1 : imx = -1
          · have hxt : xb = true := by rw [← HXB.out]; exact decide_eq_true (.inl hm1)
            subst hm1
            subst hxt
            go_wp2_with fail
            go_meet
            exact ⟨rfl, rfl⟩
          · have d3 : (imx == -1) = false := by simpa using hm1
            by_cases hm2 : tm < imx
            · have hxt : xb = true := by rw [← HXB.out]; exact decide_eq_true (.inr hm2)
              have d4 : decide (tm < imx) = true := decide_eq_true hm2
              subst hxt
              go_wp2_with fail
              go_meet
              exact ⟨rfl, rfl⟩
            · have hxt : xb = false := by rw [← HXB.out]; exact decide_eq_false (by omega)
              have d4 : decide (tm < imx) = false := decide_eq_false hm2
              subst hxt
              go_wp2_with fail
              go_meet
              exact ⟨rfl, rfl⟩
        case rest =>
          obtain ⟨rfl, hw⟩ := hcut
          have hw2 := hw.symm
          subst hw2
          cases xb with
          | false =>
            have hxf := of_decide_eq_false HXB.out
            go_wp2_with fail
            go_end0
            refine ⟨rfl, HL3.out.mx ?_⟩
            rw [← HN2.out, if_neg hxf]
            simpa using hM3
          | true =>
            have hxt := of_decide_eq_true HXB.out
            have HXT := Lib.hid hxt
            clear hxt
            have hM5 := hM3.frm ((Frm.refl _ w3).drew)
            have hC5 := hC3.frm ((Frm.refl _ w3).drew) (fun _ _ h => h)
            have hL5 := HL3.out.quiet ((Frm.refl _ w3).drew)
            have hmr := hM5.sta.most
            obtain ⟨mb, mo, hMA, hmb, hmc⟩ := hmr.elem kn (by have := hmr.len; rw [List.length_map] at this; have := (List.getElem?_eq_some_iff.1 HT.out.2).1; omega)
            have m0 := hmc 0 (.int .i64 mv) (by rw [Nat.mul_one, Nat.add_zero, List.getElem?_map, HT.out.2]; rfl)
            rw [Nat.mul_one, Nat.add_zero] at m0
            have hmn : kn < s.mn := by have := hmr.len; rw [List.length_map] at this; have := (List.getElem?_eq_some_iff.1 HT.out.2).1; omega
            have b6 := hM5.obj.cell 6
            simp only [cellsB, List.getElem?_cons_zero, List.getElem?_cons_succ] at b6
            have hmD := hmr.at_ (by omega)
            obtain ⟨mb', mo', hMA', hmbD, _, _⟩ := hmD
            have hmbE : ¬ E3 mb := fun h => by
              rw [hMA] at hMA'
              cases hMA'
              exact hM5.apart _ hmbD h
            rw [hMA] at b6
            have hall : ∀ (S : Nat → Prop) (wa wb : World), Frm S wa wb → ¬ S bX → ¬ S bI → ¬ S bT → ¬ S b → ¬ S mb → bX < wa.heap.size → bI < wa.heap.size → bT < wa.heap.size → b < wa.heap.size → mb < wa.heap.size →
                TwoOk wa bX bI bT b mb mo kn pc at_ q A (some ⟨tb_, to_, none⟩) n cA k d s.MA s.mn s.mc tm tb mv → TwoOk wb bX bI bT b mb mo kn pc at_ q A (some ⟨tb_, to_, none⟩) n cA k d s.MA s.mn s.mc tm tb mv := by
              intro S wa wb f s1 s2 s3 s4 s5 l1 l2 l3 l4 l5 ⟨⟨a1, a2, a3, a4⟩, ⟨a5, a6⟩, ⟨a7, a8⟩, a9, a10⟩
              have F : ∀ (bb o : Nat) (v : Value), bb < wa.heap.size → ¬ S bb → wa.cell? ⟨bb, o, none⟩ = some v → wb.cell? ⟨bb, o, none⟩ = some v := fun bb o v hl hs hc => by
                rw [World.cell?_of_block (w := wa) (a := ⟨bb, o, none⟩) (f.block bb hl hs)]; exact hc
              exact ⟨⟨F _ _ _ l1 s1 a1, F _ _ _ l1 s1 a2, F _ _ _ l1 s1 a3, F _ _ _ l1 s1 a4⟩, ⟨F _ _ _ l2 s2 a5, F _ _ _ l2 s2 a6⟩, ⟨F _ _ _ l3 s3 a7, F _ _ _ l3 s3 a8⟩, F _ _ _ l4 s4 a9, F _ _ _ l5 s5 a10⟩
            have HS5 : TwoOk w3.drew bX bI bT b mb mo kn pc at_ q A (some ⟨tb_, to_, none⟩) n cA k d s.MA s.mn s.mc tm tb mv :=
              ⟨⟨hX3.drew.cell 0, hX3.drew.cell 1, hX3.drew.cell 2, hX3.drew.cell 3⟩, ⟨hI3.drew.cell 1, hI3.drew.cell 3⟩, ⟨hT3.drew.cell 0, hT3.drew.cell 1⟩, b6, m0⟩
            have hlX := hX3.drew.lt
            have hlI := hI3.drew.lt
            have hlT := hT3.drew.lt
            have hlb := hM5.obj.lt
            have HCT : Hid (Calls Try.prog 78 #[.agg #[.int .i64 pc, .int .i64 at_, .slice A n cA, .slice (some ⟨tb_, to_, none⟩) k d], .int .i64 kn, .agg #[.int .i64 (min (tm + 1) mv), .int .i64 at_]] w3.drew fun e w6 => ∃ B' d', e = .returned (.agg #[.int .i64 pc, .int .i64 at_, .slice A n cA, .slice B' k d']) ∧
                TwoOk w6 bX bI bT b mb mo kn pc at_ q A (some ⟨tb_, to_, none⟩) n cA k d s.MA s.mn s.mc tm tb mv ∧ Hid (Calls Try.prog 75 #[.pointer (some ⟨b, 0, none⟩), .agg #[.int .i64 pc, .int .i64 at_, .slice A n cA, .slice B' k d'], .int .i64 (q : Int)] w6 fun e w9 => e = .returned (.tuple #[]) ∧
                  TwoOk w9 bX bI bT b mb mo kn pc at_ q A (some ⟨tb_, to_, none⟩) n cA k d s.MA s.mn s.mc tm tb mv ∧ MX w E D w9 b g bm s m line NX seen steps kept)) := Lib.hid (by
              refine (countedC pc at_ A (some ⟨tb_, to_, none⟩) n cA k d turns kn ⟨min (tm + 1) mv, at_⟩ _ w3.drew hC5.t (by omega) (by omega)).mono ?_
              rintro e w6 ⟨B', d', rfl, hr, hf⟩
              have hS6 := hall _ _ _ hf (fun h => h) (fun h => h) (fun h => h) (fun h => h) (fun h => h) hlX hlI hlT hlb hmb HS5
              refine ⟨B', d', rfl, hS6, Lib.hid ?_⟩
              have hM6 := (hM5.frm hf).more (G := fun q => D3 q ∨ w3.drew.heap.size ≤ q) (fun q h _ => .inl h) (fun q h he => by rcases h with h | h; exact hM5.apart q h he; have := HE3.out q he; have hrf : w3.drew.heap.size = w3.heap.size := rfl; omega)
              have hC6 : CfR w6 (fun q => D3 q ∨ w3.drew.heap.size ≤ q) parts (turns.set kn ⟨min (tm + 1) mv, at_⟩) A n cA B' k d' := ⟨(hC5.p.frm hf (fun _ _ h => h)).mono (fun q h _ => .inl h), hr.mono (fun q h _ => .inr h)⟩
              refine (toM pc at_ q hM6 hC6 (by first | omega | (simp only [List.length_cons]; omega))).mono ?_
              rintro e w9 ⟨rfl, hM9, hf9⟩
              have hz6 := hf.size
              refine ⟨rfl, hall _ _ _ hf9 (fun h => HEX3.out.1 h.1) (fun h => HEX3.out.2.1 h.1) (fun h => HEX3.out.2.2 h.1) (fun h => h.2.1 rfl) (fun h => hmbE h.1) (by omega) (by omega) (by omega) (by omega) (by omega) hS6, (((hL5.quiet hf).more (G := fun q => D3 q ∨ w3.drew.heap.size ≤ q) (fun q h => .inl h)).push hf9 (fun k h => h.1)).mx ?_⟩
              rw [← HN2.out, if_pos HXT.out]
              simpa using hM9)
            have HS5' := Lib.hid HS5
            have hmin : ∀ (w : World) (ty : TypeId), (Builtin.min_ #[3, 3] ty #[.int .i64 (tm + 1), .int .i64 mv]).run Try.prog w = .ok (.int .i64 (min (tm + 1) mv)) w := fun w ty => by
              have hm : (if mv < tm + 1 then mv else tm + 1) = min (tm + 1) mv := by rw [Int.min_def]; split <;> split <;> omega
              simp [Builtin.min_, Builtin.min2, hm]
            have htw : IntKind.i64.wrap (tm + 1) = tm + 1 := IntWalk.i64_in _ (by omega)
            obtain ⟨⟨s1, s2, s3, s4⟩, ⟨s5, s6⟩, ⟨s7, s8⟩, s9, s10⟩ := HS5
            clear hall hL5 hM5 hC5 hX3 hI3 hT3 hmr hmc hM3 hC3 x0 x1 x2 x3 y0 y1 y2 y3 lx j1 j2 j3 j4 j5 t0 t1 li lt_ b6 m0
            go_wp2_with fail
            go_region_held3 (fun w' => (w'.cell? ⟨bX, 0, none⟩ = some (.int .i64 pc) ∧ w'.cell? ⟨bX, 1, none⟩ = some (.int .i64 at_) ∧ w'.cell? ⟨bX, 2, none⟩ = some (.slice A n cA) ∧ w'.cell? ⟨bX, 3, none⟩ = some (.slice (some ⟨tb_, to_, none⟩) k d)) ∧
                (w'.cell? ⟨bI, 1, none⟩ = some (.int .i64 q) ∧ w'.cell? ⟨bI, 3, none⟩ = some (.int .i64 kn)) ∧ (w'.cell? ⟨bT, 0, none⟩ = some (.int .i64 tm) ∧ w'.cell? ⟨bT, 1, none⟩ = some (.int .i64 tb)) ∧
                w'.cell? ⟨b, 6, none⟩ = some (.slice (some ⟨mb, mo, none⟩) s.mn s.mc) ∧ w'.cell? ⟨mb, mo + kn, none⟩ = some (.int .i64 mv)) (first | exact hS9 | exact hS6 | exact HS5'.out)
              (first
                | (go_at_call 78; refine HCT.out.mono ?_; rintro e w6 ⟨B', d', rfl, hS6, h6⟩)
                | (go_at_call 75; refine h6.out.mono ?_; rintro e w9 ⟨rfl, hS9, hmx⟩))
            all_goals
              go_wp2_with fail
              go_end0
              exact ⟨rfl, hmx⟩
      · have d2 : decide (imn ≤ tm) = false := decide_eq_false hle
        have HN3 := HN2.out
        rw [if_neg hle, List.nil_append] at HN3
        have HN2 := Lib.hid HN3
        clear HN3
        have HE2 : Hid (∀ k, E1 k → k < w2.heap.size) := Lib.hid fun k h => by have := HEL.out k h; have := HSZ.out; omega
        have HEX2 := HEX
        have hT2 := hT
        go_upto_region 5 with fail
        go_cut [44] from 35 to 44 (fun v wx => v = .bool xb ∧ wx = w2)
        case first =>
          by_cases hm1 : imx = -1
          · have hxt : xb = true := by rw [← HXB.out]; exact decide_eq_true (.inl hm1)
            subst hm1
            subst hxt
            go_wp2_with fail
            go_meet
            exact ⟨rfl, rfl⟩
          · have d3 : (imx == -1) = false := by simpa using hm1
            by_cases hm2 : tm < imx
            · have hxt : xb = true := by rw [← HXB.out]; exact decide_eq_true (.inr hm2)
              have d4 : decide (tm < imx) = true := decide_eq_true hm2
              subst hxt
              go_wp2_with fail
              go_meet
              exact ⟨rfl, rfl⟩
            · have hxt : xb = false := by rw [← HXB.out]; exact decide_eq_false (by omega)
              have d4 : decide (tm < imx) = false := decide_eq_false hm2
              subst hxt
              go_wp2_with fail
              go_meet
              exact ⟨rfl, rfl⟩
        case rest =>
          obtain ⟨rfl, hw⟩ := hcut
          have hw2 := hw.symm
          subst hw2
          cases xb with
          | false =>
            have hxf := of_decide_eq_false HXB.out
            go_wp2_with fail
            go_end0
            refine ⟨rfl, HL2.out.mx ?_⟩
            rw [← HN2.out, if_neg hxf]
            simpa using hM2
          | true =>
            have hxt := of_decide_eq_true HXB.out
            have HXT := Lib.hid hxt
            clear hxt
            have hM5 := hM2.frm ((Frm.refl _ w2).drew)
            have hC5 := hC2.frm ((Frm.refl _ w2).drew) (fun _ _ h => h)
            have hL5 := HL2.out.quiet ((Frm.refl _ w2).drew)
            have hmr := hM5.sta.most
            obtain ⟨mb, mo, hMA, hmb, hmc⟩ := hmr.elem kn (by have := hmr.len; rw [List.length_map] at this; have := (List.getElem?_eq_some_iff.1 HT.out.2).1; omega)
            have m0 := hmc 0 (.int .i64 mv) (by rw [Nat.mul_one, Nat.add_zero, List.getElem?_map, HT.out.2]; rfl)
            rw [Nat.mul_one, Nat.add_zero] at m0
            have hmn : kn < s.mn := by have := hmr.len; rw [List.length_map] at this; have := (List.getElem?_eq_some_iff.1 HT.out.2).1; omega
            have b6 := hM5.obj.cell 6
            simp only [cellsB, List.getElem?_cons_zero, List.getElem?_cons_succ] at b6
            have hmD := hmr.at_ (by omega)
            obtain ⟨mb', mo', hMA', hmbD, _, _⟩ := hmD
            have hmbE : ¬ E1 mb := fun h => by
              rw [hMA] at hMA'
              cases hMA'
              exact hM5.apart _ hmbD h
            rw [hMA] at b6
            have hall : ∀ (S : Nat → Prop) (wa wb : World), Frm S wa wb → ¬ S bX → ¬ S bI → ¬ S bT → ¬ S b → ¬ S mb → bX < wa.heap.size → bI < wa.heap.size → bT < wa.heap.size → b < wa.heap.size → mb < wa.heap.size →
                TwoOk wa bX bI bT b mb mo kn pc at_ q A (some ⟨tb_, to_, none⟩) n cA k d s.MA s.mn s.mc tm tb mv → TwoOk wb bX bI bT b mb mo kn pc at_ q A (some ⟨tb_, to_, none⟩) n cA k d s.MA s.mn s.mc tm tb mv := by
              intro S wa wb f s1 s2 s3 s4 s5 l1 l2 l3 l4 l5 ⟨⟨a1, a2, a3, a4⟩, ⟨a5, a6⟩, ⟨a7, a8⟩, a9, a10⟩
              have F : ∀ (bb o : Nat) (v : Value), bb < wa.heap.size → ¬ S bb → wa.cell? ⟨bb, o, none⟩ = some v → wb.cell? ⟨bb, o, none⟩ = some v := fun bb o v hl hs hc => by
                rw [World.cell?_of_block (w := wa) (a := ⟨bb, o, none⟩) (f.block bb hl hs)]; exact hc
              exact ⟨⟨F _ _ _ l1 s1 a1, F _ _ _ l1 s1 a2, F _ _ _ l1 s1 a3, F _ _ _ l1 s1 a4⟩, ⟨F _ _ _ l2 s2 a5, F _ _ _ l2 s2 a6⟩, ⟨F _ _ _ l3 s3 a7, F _ _ _ l3 s3 a8⟩, F _ _ _ l4 s4 a9, F _ _ _ l5 s5 a10⟩
            have HS5 : TwoOk w2.drew bX bI bT b mb mo kn pc at_ q A (some ⟨tb_, to_, none⟩) n cA k d s.MA s.mn s.mc tm tb mv :=
              ⟨⟨hX2.drew.cell 0, hX2.drew.cell 1, hX2.drew.cell 2, hX2.drew.cell 3⟩, ⟨hI2.drew.cell 1, hI2.drew.cell 3⟩, ⟨hT2.drew.cell 0, hT2.drew.cell 1⟩, b6, m0⟩
            have hlX := hX2.drew.lt
            have hlI := hI2.drew.lt
            have hlT := hT2.drew.lt
            have hlb := hM5.obj.lt
            have HCT : Hid (Calls Try.prog 78 #[.agg #[.int .i64 pc, .int .i64 at_, .slice A n cA, .slice (some ⟨tb_, to_, none⟩) k d], .int .i64 kn, .agg #[.int .i64 (min (tm + 1) mv), .int .i64 at_]] w2.drew fun e w6 => ∃ B' d', e = .returned (.agg #[.int .i64 pc, .int .i64 at_, .slice A n cA, .slice B' k d']) ∧
                TwoOk w6 bX bI bT b mb mo kn pc at_ q A (some ⟨tb_, to_, none⟩) n cA k d s.MA s.mn s.mc tm tb mv ∧ Hid (Calls Try.prog 75 #[.pointer (some ⟨b, 0, none⟩), .agg #[.int .i64 pc, .int .i64 at_, .slice A n cA, .slice B' k d'], .int .i64 (q : Int)] w6 fun e w9 => e = .returned (.tuple #[]) ∧
                  TwoOk w9 bX bI bT b mb mo kn pc at_ q A (some ⟨tb_, to_, none⟩) n cA k d s.MA s.mn s.mc tm tb mv ∧ MX w E D w9 b g bm s m line NX seen steps kept)) := Lib.hid (by
              refine (countedC pc at_ A (some ⟨tb_, to_, none⟩) n cA k d turns kn ⟨min (tm + 1) mv, at_⟩ _ w2.drew hC5.t (by omega) (by omega)).mono ?_
              rintro e w6 ⟨B', d', rfl, hr, hf⟩
              have hS6 := hall _ _ _ hf (fun h => h) (fun h => h) (fun h => h) (fun h => h) (fun h => h) hlX hlI hlT hlb hmb HS5
              refine ⟨B', d', rfl, hS6, Lib.hid ?_⟩
              have hM6 := (hM5.frm hf).more (G := fun q => D1 q ∨ w2.drew.heap.size ≤ q) (fun q h _ => .inl h) (fun q h he => by rcases h with h | h; exact hM5.apart q h he; have := HE2.out q he; have hrf : w2.drew.heap.size = w2.heap.size := rfl; omega)
              have hC6 : CfR w6 (fun q => D1 q ∨ w2.drew.heap.size ≤ q) parts (turns.set kn ⟨min (tm + 1) mv, at_⟩) A n cA B' k d' := ⟨(hC5.p.frm hf (fun _ _ h => h)).mono (fun q h _ => .inl h), hr.mono (fun q h _ => .inr h)⟩
              refine (toM pc at_ q hM6 hC6 (by first | omega | (simp only [List.length_cons]; omega))).mono ?_
              rintro e w9 ⟨rfl, hM9, hf9⟩
              have hz6 := hf.size
              refine ⟨rfl, hall _ _ _ hf9 (fun h => HEX2.out.1 h.1) (fun h => HEX2.out.2.1 h.1) (fun h => HEX2.out.2.2 h.1) (fun h => h.2.1 rfl) (fun h => hmbE h.1) (by omega) (by omega) (by omega) (by omega) (by omega) hS6, (((hL5.quiet hf).more (G := fun q => D1 q ∨ w2.drew.heap.size ≤ q) (fun q h => .inl h)).push hf9 (fun k h => h.1)).mx ?_⟩
              rw [← HN2.out, if_pos HXT.out]
              simpa using hM9)
            have HS5' := Lib.hid HS5
            have hmin : ∀ (w : World) (ty : TypeId), (Builtin.min_ #[3, 3] ty #[.int .i64 (tm + 1), .int .i64 mv]).run Try.prog w = .ok (.int .i64 (min (tm + 1) mv)) w := fun w ty => by
              have hm : (if mv < tm + 1 then mv else tm + 1) = min (tm + 1) mv := by rw [Int.min_def]; split <;> split <;> omega
              simp [Builtin.min_, Builtin.min2, hm]
            have htw : IntKind.i64.wrap (tm + 1) = tm + 1 := IntWalk.i64_in _ (by omega)
            obtain ⟨⟨s1, s2, s3, s4⟩, ⟨s5, s6⟩, ⟨s7, s8⟩, s9, s10⟩ := HS5
            clear hall hL5 hM5 hC5 hX2 hI2 hT2 hmr hmc hM2 hC2 x0 x1 x2 x3 y0 y1 y2 y3 lx j1 j2 j3 j4 j5 t0 t1 li lt_ b6 m0
            go_wp2_with fail
            go_region_held3 (fun w' => (w'.cell? ⟨bX, 0, none⟩ = some (.int .i64 pc) ∧ w'.cell? ⟨bX, 1, none⟩ = some (.int .i64 at_) ∧ w'.cell? ⟨bX, 2, none⟩ = some (.slice A n cA) ∧ w'.cell? ⟨bX, 3, none⟩ = some (.slice (some ⟨tb_, to_, none⟩) k d)) ∧
                (w'.cell? ⟨bI, 1, none⟩ = some (.int .i64 q) ∧ w'.cell? ⟨bI, 3, none⟩ = some (.int .i64 kn)) ∧ (w'.cell? ⟨bT, 0, none⟩ = some (.int .i64 tm) ∧ w'.cell? ⟨bT, 1, none⟩ = some (.int .i64 tb)) ∧
                w'.cell? ⟨b, 6, none⟩ = some (.slice (some ⟨mb, mo, none⟩) s.mn s.mc) ∧ w'.cell? ⟨mb, mo + kn, none⟩ = some (.int .i64 mv)) (first | exact hS9 | exact hS6 | exact HS5'.out)
              (first
                | (go_at_call 78; refine HCT.out.mono ?_; rintro e w6 ⟨B', d', rfl, hS6, h6⟩)
                | (go_at_call 75; refine h6.out.mono ?_; rintro e w9 ⟨rfl, hS9, hmx⟩))
            all_goals
              go_wp2_with fail
              go_end0
              exact ⟨rfl, hmx⟩
theorem Lk.mxs {w : World} {E D : Nat → Prop} {w1 w2 : World} {E1 D1 : Nat → Prop} {b g bm : Nat} {s : Stt} {m : Mc} {line : ByteArray} {pile : List Fr} {seen : List Key} {steps kept : Nat} (h : Lk w E D w1 E1 D1) (hM : MX w1 E1 D1 w2 b g bm s m line pile seen steps kept) : MX w E D w2 b g bm s m line pile seen steps kept := by
  obtain ⟨E2, D2, h1, h2, h3, h4⟩ := hM
  have hz := h.f.size
  exact ⟨E2, D2, h1, fun k hk => by rcases h2 k hk with h' | h'; exact h.e k h'; exact .inr (by omega), fun k hk hl => h3 k (h.d k hk hl) (by omega), h.f.then h4 (fun k hk hl => by rcases h.e k hk with h' | h'; exact h'; omega)⟩
theorem on_turn (m : Mc) (line : List UInt8) (c : Cf) (i : Ins) (h : m.ins[c.pc]? = some i) (hop : i.op = 10) : onS m line c = turnS m i c := by
  unfold onS turnS
  simp [h, hop]
end Go.Proofs.Ytoadmpochaeohaa
end
