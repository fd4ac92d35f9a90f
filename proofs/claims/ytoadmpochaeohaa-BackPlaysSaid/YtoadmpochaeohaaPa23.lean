/-
  Reference 14: OpTurn, walked.
-/
import Derived.Test.YtoadmpochaeohaaPa22
section
set_option linter.unusedVariables false
set_option linter.unusedSimpArgs false
set_option maxRecDepth 100000
namespace Go.Proofs.Ytoadmpochaeohaa
open Go.RowKit

theorem infoC : (Try.prog.info? 114).map (fun i => (i.zero, i.size, i.bytes)) = some (some (.agg #[.int .i64 0, .int .i64 0, .slice none 0 0, .slice none 0 0, .slice none 0 0, .slice none 0 0, .slice none 0 0]), 7, 136) := by kernel_rfl
theorem blk7 {w : World} {g : Nat} {c0 c1 c2 c3 c4 c5 c6 : Value} {t : TypeId} (h : Blk w g [c0, c1, c2, c3, c4, c5, c6] t) : (w.cell? ⟨g, 0, none⟩ = some c0 ∧ w.cell? ⟨g, 1, none⟩ = some c1 ∧ w.cell? ⟨g, 2, none⟩ = some c2 ∧ w.cell? ⟨g, 3, none⟩ = some c3 ∧ w.cell? ⟨g, 4, none⟩ = some c4 ∧ w.cell? ⟨g, 5, none⟩ = some c5 ∧ w.cell? ⟨g, 6, none⟩ = some c6) ∧ g < w.heap.size :=
  ⟨⟨h.cell 0, h.cell 1, h.cell 2, h.cell 3, h.cell 4, h.cell 5, h.cell 6⟩, h.lt⟩
theorem blk10 {w : World} {g : Nat} {c0 c1 c2 c3 c4 c5 c6 c7 c8 c9 : Value} {t : TypeId} (h : Blk w g [c0, c1, c2, c3, c4, c5, c6, c7, c8, c9] t) : (w.cell? ⟨g, 0, none⟩ = some c0 ∧ w.cell? ⟨g, 1, none⟩ = some c1 ∧ w.cell? ⟨g, 2, none⟩ = some c2 ∧ w.cell? ⟨g, 3, none⟩ = some c3 ∧ w.cell? ⟨g, 4, none⟩ = some c4 ∧ w.cell? ⟨g, 5, none⟩ = some c5 ∧ w.cell? ⟨g, 6, none⟩ = some c6 ∧ w.cell? ⟨g, 7, none⟩ = some c7 ∧ w.cell? ⟨g, 8, none⟩ = some c8 ∧ w.cell? ⟨g, 9, none⟩ = some c9) ∧ g < w.heap.size :=
  ⟨⟨h.cell 0, h.cell 1, h.cell 2, h.cell 3, h.cell 4, h.cell 5, h.cell 6, h.cell 7, h.cell 8, h.cell 9⟩, h.lt⟩
theorem twoT (w : World) (x y : List Value) (a b : TypeId) : Blk ((w.alloc (.cells x.toArray a)).alloc (.cells y.toArray b)) w.heap.size x a ∧ Blk ((w.alloc (.cells x.toArray a)).alloc (.cells y.toArray b)) (w.heap.size + 1) y b ∧ Frm (fun _ => False) w ((w.alloc (.cells x.toArray a)).alloc (.cells y.toArray b)) := by
  have e1 : (w.alloc (.cells x.toArray a)).heap.size = w.heap.size + 1 := by unfold World.alloc; exact Array.size_push _
  refine ⟨(Blk.new w x a).alloc _, ?_, ((Frm.refl _ _).alloc _).alloc _⟩
  rw [← e1]; exact Blk.new _ y b
theorem flatC_one (gr co : Nat) (ps : List (CA × RC)) : ∀ u ∈ flatC gr co ps, u.oneCell' = true := by
  intro u hu
  obtain ⟨p, _, hp⟩ := List.mem_flatMap.1 hu
  unfold CA.cells at hp
  simp only [List.mem_cons, List.not_mem_nil, or_false] at hp
  rcases hp with rfl | rfl | rfl | rfl | rfl | rfl | rfl <;> rfl
theorem PlM.low {w : World} {D : Nat → Prop} {bX : Nat} {A : Option Addr} {n cp gr co : Nat} {fo : Bool} {ins : List Ins} {line : ByteArray} {bR : Nat} {sv mv : Value} (h : PlM w D bX A n cp gr co fo ins line bR sv mv) : PlM w (fun q => D q ∧ q < w.heap.size) bX A n cp gr co fo ins line bR sv mv := ⟨h.obj, h.rd.low, h.refs⟩
/-- One configuration is handed back. -/
theorem finC {w w5 : World} {D : Nat → Prop} {gr co : Nat} (s : CA) (c : RC) (hC : CRd w5 (fun q => D q ∨ w.heap.size ≤ q) s gr co c) (hf : Frm (fun _ => False) w w5) :
    CfL (w5.alloc (.cells (s.cells gr co c.pc c.at_).toArray 114)) (fun q => w.heap.size ≤ q) (fun q => D q ∨ w.heap.size ≤ q) gr co (.slice (some ⟨w5.heap.size, 0, none⟩) 1 1) [c] ∧ Frm (fun _ => False) w (w5.alloc (.cells (s.cells gr co c.pc c.at_).toArray 114)) := by
  have h1 : Frm (fun _ => False) w5 (w5.alloc (.cells (s.cells gr co c.pc c.at_).toArray 114)) := (Frm.refl _ _).alloc _
  exact ⟨CfL.one (Blk.new w5 _ 114) hf.size (hC.frm h1 (fun _ _ h => h)), hf.trans h1⟩
theorem finC2 {w w5 : World} {D : Nat → Prop} {gr co : Nat} (s : CA) (c d : RC) (hC : CRd w5 (fun q => D q ∨ w.heap.size ≤ q) s gr co c) (hD : CRd w5 (fun q => D q ∨ w.heap.size ≤ q) s gr co d) (hf : Frm (fun _ => False) w w5) :
    CfL (w5.alloc (.cells (s.cells gr co c.pc c.at_ ++ s.cells gr co d.pc d.at_).toArray 114)) (fun q => w.heap.size ≤ q) (fun q => D q ∨ w.heap.size ≤ q) gr co (.slice (some ⟨w5.heap.size, 0, none⟩) 2 2) [c, d] ∧ Frm (fun _ => False) w (w5.alloc (.cells (s.cells gr co c.pc c.at_ ++ s.cells gr co d.pc d.at_).toArray 114)) := by
  have h1 : Frm (fun _ => False) w5 (w5.alloc (.cells (s.cells gr co c.pc c.at_ ++ s.cells gr co d.pc d.at_).toArray 114)) := (Frm.refl _ _).alloc _
  exact ⟨CfL.two (Blk.new w5 _ 114) hf.size (hC.frm h1 (fun _ _ h => h)) (hD.frm h1 (fun _ _ h => h)), hf.trans h1⟩
theorem getD_of {l : List Int} {k : Nat} {z d : Int} (h : l[k]? = some z) : l.getD k d = z := by rw [List.getD_eq_getElem?_getD, h]; rfl
set_option maxHeartbeats 8000000 in
theorem turnC (bX : Nat) (s : CA) (gr co : Nat) (c : RC) (i : Ins) (N : Nat) (D : Nat → Prop) (w : World) (hC : CRd w D s gr co c) (hn : 0 ≤ i.n ∧ i.n.toNat < co) (hat : c.at_ ≤ N) (hN : N ≤ 1000000) (ht : ∀ z ∈ c.turns, 0 ≤ z ∧ z ≤ 1000000) (hco : co ≤ 40) (hx : 0 ≤ i.x) (hy : 0 ≤ i.y) :
    Calls Try.prog 71 #[.pointer (some ⟨bX, 0, none⟩), .agg (s.cells gr co c.pc c.at_).toArray, .agg i.cells.toArray] w fun e w' => ∃ v, e = .returned v ∧ CfL w' (fun q => w.heap.size ≤ q) (fun q => D q ∨ w.heap.size ≤ q) gr co v (turnR i c) ∧ Frm (fun _ => False) w w' := by
  obtain ⟨a1, a2, a3, a4, a5, c1, c2, c3, c4, c5⟩ := s
  obtain ⟨pc, at_, began, frm, til, turns, last⟩ := c
  obtain ⟨iop, ix, iy, i_n, imn, imx, is0, is1, is2, is3⟩ := i
  obtain ⟨l1, l2, l3, l4, l5⟩ := hC.len
  simp only [CA.cells, Ins.cells] at *
  obtain ⟨kn, rfl⟩ := Int.eq_ofNat_of_zero_le hn.1
  obtain ⟨xn, rfl⟩ := Int.eq_ofNat_of_zero_le hx
  obtain ⟨yn, rfl⟩ := Int.eq_ofNat_of_zero_le hy
  have hkn : kn < co := by omega
  obtain ⟨cs, hcs⟩ : ∃ cs, turnR ⟨iop, xn, yn, kn, imn, imx, is0, is1, is2, is3⟩ ⟨pc, at_, began, frm, til, turns, last⟩ = cs := ⟨_, rfl⟩
  rw [hcs]
  obtain ⟨k, hk⟩ : ∃ k, turns[kn]? = some k := ⟨_, List.getElem?_eq_getElem (by omega)⟩
  obtain ⟨lv0, hlv⟩ : ∃ k, last[kn]? = some k := ⟨_, List.getElem?_eq_getElem (by omega)⟩
  have hkb := ht k (List.mem_of_getElem? hk)
  unfold turnR at hcs
  simp only [Int.toNat_natCast] at hcs
  rw [getD_of hk, getD_of hlv] at hcs
  obtain ⟨hX, hY, hf0⟩ := twoT w [.int .i64 pc, .int .i64 at_, .slice a1 gr c1, .slice a2 gr c2, .slice a3 gr c3, .slice a4 co c4, .slice a5 co c5] [.int .i64 iop, .int .i64 xn, .int .i64 yn, .int .i64 kn, .int .i64 imn, .int .i64 imx, .int .u64 is0, .int .u64 is1, .int .u64 is2, .int .u64 is3] 114 39
  have hC1 := hC.low.frm hf0 (fun _ _ h => h)
  have HCS := Lib.hid hcs
  have HL := Lib.hid (⟨hk, hlv⟩ : _ ∧ _)
  clear hC hk hlv hcs ht
  go_enter Try.func71, Try.ntmps71
  go_upto_region 1 with fail
  generalize (w.alloc (.cells #[.int .i64 pc, .int .i64 at_, .slice a1 gr c1, .slice a2 gr c2, .slice a3 gr c3, .slice a4 co c4, .slice a5 co c5] 114)).alloc (.cells #[.int .i64 iop, .int .i64 xn, .int .i64 yn, .int .i64 kn, .int .i64 imn, .int .i64 imx, .int .u64 is0, .int .u64 is1, .int .u64 is2, .int .u64 is3] 39) = w1 at *
  obtain ⟨b4, hb4⟩ : ∃ b, w.heap.size = b := ⟨_, rfl⟩
  obtain ⟨b5, hb5⟩ : ∃ b, w.heap.size + 1 = b := ⟨_, rfl⟩
  simp only [hb5] at hY ⊢
  simp only [hb4] at hX hC1 ⊢
  have HB := Lib.hid (⟨hb4, hb5⟩ : _ ∧ _)
  have hb45 : b4 < b5 := by omega
  clear hb4 hb5
  obtain ⟨⟨x0, x1, x2, x3, x4, x5, x6⟩, lx⟩ := blk7 hX
  obtain ⟨⟨y0, y1, y2, y3, y4, y5, y6, y7, y8, y9⟩, ly⟩ := blk10 hY
  obtain ⟨bt, ot, z1, rfl, hbt, hz1, hct⟩ := hC1.r4.cell1 kn hkn
  obtain ⟨bl, ol, z2, rfl, hbl, hz2, hcl⟩ := hC1.r5.cell1 kn hkn
  rw [HL.out.1] at hz1
  rw [HL.out.2] at hz2
  cases hz1
  cases hz2
  by_cases hdead : imn < k ∧ lv0 = at_
  · obtain ⟨hd1, rfl⟩ := hdead
    have d1 : decide (imn < k) = true := decide_eq_true hd1
    go_wp2_with fail
    go_quiet (fail)
    go_wp2_with fail
    go_ret
    have hff := hf0.drewN nq
    refine ⟨_, rfl, ?_, hff⟩
    rw [← HCS.out]; simp only [hd1, and_self, if_true]
    exact CfL.nil
  · have HND := Lib.hid hdead
    clear hdead
    go_upto_region 2 with fail
    go_cut [31] from 17 to 31 (fun v wx => v = .bool false ∧ Frm (fun _ => False) w1 wx)
    case first =>
      by_cases h1 : imn < k
      · have d1 : decide (imn < k) = true := decide_eq_true h1
        have h2 : ¬ lv0 = (at_ : Int) := fun h => HND.out ⟨h1, h⟩
        have d2 : (lv0 == (at_ : Int)) = false := by simpa using h2
        go_wp2_with fail
        go_quiet (fail)
        go_wp2_with fail
        go_meet
        exact ⟨rfl, (Frm.refl _ _).drewN nq⟩
      · have d1 : decide (imn < k) = false := decide_eq_false h1
        go_wp2_with fail
        go_quiet (fail)
        go_wp2_with fail
        go_meet
        exact ⟨rfl, (Frm.refl _ _).drewN nq⟩
    case rest =>
      obtain ⟨rfl, hf1⟩ := hcut
      obtain ⟨w2, hw2⟩ : ∃ w2, w2 = wc := ⟨_, rfl⟩
      subst hw2
      have hX2 := hX.frm hf1 (fun h => h)
      have hY2 := hY.frm hf1 (fun h => h)
      have hC2 := hC1.frm hf1 (fun _ _ h => h)
      have hf2 := hf0.trans hf1
      have hzw : w.heap.size ≤ w2.heap.size := hf2.size
      have HCS2 : Hid ((if imn ≤ k then [(⟨yn, at_, began, frm, til, turns, last⟩ : RC)] else []) ++ (if imx = -1 ∨ k < imx then [⟨xn, at_, began, frm, til, turns.set kn (k + 1), last.set kn at_⟩] else []) = cs) := Lib.hid (by have := HCS.out; rwa [if_neg HND.out] at this)
      clear x0 x1 x2 x3 x4 x5 x6 lx y0 y1 y2 y3 y4 y5 y6 y7 y8 y9 ly hX hY hC1 hct hcl hf0 hf1 HCS HND
      obtain ⟨⟨x0, x1, x2, x3, x4, x5, x6⟩, lx⟩ := blk7 hX2
      obtain ⟨⟨y0, y1, y2, y3, y4, y5, y6, y7, y8, y9⟩, ly⟩ := blk10 hY2
      obtain ⟨d35, hd35⟩ : ∃ d, decide (imn ≤ k) = d := ⟨_, rfl⟩
      go_upto_if 35 with (fail)
      go_cut [8] from 36 to 43 (fun v wx => CfL wx (fun q => w2.heap.size ≤ q) (fun q => D q ∧ q < w.heap.size) gr co v (if imn ≤ k then [(⟨yn, at_, began, frm, til, turns, last⟩ : RC)] else []) ∧ Frm (fun _ => False) w2 wx)
      case first =>
        by_cases hmn : imn ≤ k
        · obtain rfl : d35 = true := by rw [← hd35]; exact decide_eq_true hmn
          clear hd35
          have hO := Blk.new w2 [.int .i64 pc, .int .i64 at_, .slice a1 gr c1, .slice a2 gr c2, .slice a3 gr c3, .slice (some ⟨bt, ot, none⟩) co c4, .slice (some ⟨bl, ol, none⟩) co c5] 114
          have hfo : Frm (fun _ => False) w2 (w2.alloc (.cells #[.int .i64 pc, .int .i64 at_, .slice a1 gr c1, .slice a2 gr c2, .slice a3 gr c3, .slice (some ⟨bt, ot, none⟩) co c4, .slice (some ⟨bl, ol, none⟩) co c5] 114)) := (Frm.refl _ _).alloc _
          have hY3 := hY2.frm hfo (fun h => h)
          have hC3 := hC2.frm hfo (fun _ _ h => h)
          go_upto_region 7 with fail
          clear x0 x1 x2 x3 x4 x5 x6 lx y0 y1 y2 y3 y4 y5 y6 y7 y8 y9 ly
          generalize w2.alloc (.cells #[.int .i64 pc, .int .i64 at_, .slice a1 gr c1, .slice a2 gr c2, .slice a3 gr c3, .slice (some ⟨bt, ot, none⟩) co c4, .slice (some ⟨bl, ol, none⟩) co c5] 114) = w3 at *
          obtain ⟨b9, hb9⟩ : ∃ b, w2.heap.size = b := ⟨_, rfl⟩
          have hn9 : b9 ≠ b5 := by have := hY2.lt; omega
          simp only [hb9] at hO ⊢
          have HB9 := Lib.hid hb9
          clear hb9
          obtain ⟨⟨y0, y1, y2, y3, y4, y5, y6, y7, y8, y9⟩, ly⟩ := blk10 hY3
          obtain ⟨⟨x0, x1, x2, x3, x4, x5, x6⟩, lx⟩ := blk7 hO
          have hO4 := hO.setSame 0 (.int .i64 yn)
          simp only [List.set_cons_zero] at hO4
          have hf4 := hfo.set b9 0 (.int .i64 yn) (fun h => by have := HB9.out; omega)
          have hC4 := hC3.frm ((Frm.refl (fun q => q = b9) w3).set b9 0 (.int .i64 yn) (fun _ => rfl)) (fun q hq e => by have := hq.2; have := HB9.out; have := HB.out; omega)
          have yf0 := hO.frozen 0
          go_upto_region 8 with fail
          clear x0 x1 x2 x3 x4 x5 x6 lx y0 y1 y2 y3 y4 y5 y6 y7 y8 y9 ly yf0
          generalize w3.setCell ⟨b9, 0, none⟩ (.int .i64 yn) = w4 at *
          obtain ⟨⟨x0, x1, x2, x3, x4, x5, x6⟩, lx⟩ := blk7 hO4
          go_wp2_with (with_reducible refine stop_at 43 rfl ?_)
          unfold Stop
          have hBN := Blk.new w4 [.int .i64 yn, .int .i64 at_, .slice a1 gr c1, .slice a2 gr c2, .slice a3 gr c3, .slice (some ⟨bt, ot, none⟩) co c4, .slice (some ⟨bl, ol, none⟩) co c5] 114
          refine op_append rfl _ _ _ rfl 114 _ 7 136 Try.underlying115 infoC rfl (by omega) (F := fun q => w2.heap.size ≤ q) (n := 0) (xs := []) Sl.nil rfl ⟨w4.heap.size, 0, none⟩ 1 1 [.int .i64 yn, .int .i64 at_, .slice a1 gr c1, .slice a2 gr c2, .slice a3 gr c3, .slice (some ⟨bt, ot, none⟩) co c4, .slice (some ⟨bl, ol, none⟩) co c5] rfl rfl (fun j u hu => (hBN.cellAdd 0 j).trans (by rw [Nat.zero_add]; exact hu)) (flatC_one gr co [(⟨a1, a2, a3, some ⟨bt, ot, none⟩, some ⟨bl, ol, none⟩, c1, c2, c3, c4, c5⟩, ⟨yn, at_, began, frm, til, turns, last⟩)]) (by simp only [maxLen]; omega) (by omega) ?_
          intro v5 w5 hf5 hs5
          have hf45 : Frm (fun _ => False) w4 (w4.alloc (.cells #[.int .i64 yn, .int .i64 at_, .slice a1 gr c1, .slice a2 gr c2, .slice a3 gr c3, .slice (some ⟨bt, ot, none⟩) co c4, .slice (some ⟨bl, ol, none⟩) co c5] 114)) := (Frm.refl _ _).alloc _
          have hsz := hf4.size
          have HR : Hid (CfL w5 (fun q => w2.heap.size ≤ q) (fun q => D q ∧ q < w.heap.size) gr co v5 (if imn ≤ k then [(⟨yn, at_, began, frm, til, turns, last⟩ : RC)] else []) ∧ Frm (fun _ => False) w2 w5) := Lib.hid (by
            rw [if_pos hmn]
            refine ⟨⟨[(⟨a1, a2, a3, some ⟨bt, ot, none⟩, some ⟨bl, ol, none⟩, c1, c2, c3, c4, c5⟩, ⟨yn, at_, began, frm, til, turns, last⟩)], rfl, hs5.mono (by rintro q (h | h) _; exact h; show w2.heap.size ≤ q; have := hf45.size; omega), fun p hp => ?_⟩, (hf4.trans hf45).then hf5 (fun q h hl => by omega)⟩
            rw [List.mem_singleton] at hp; subst hp
            have hq := (hC4.frm hf45 (fun _ _ h => h)).frm hf5 (fun q hq h => by have := hq.2; have := HB.out; omega)
            exact ⟨(hq.mono (fun q h _ => by rw [HB.out.1]; exact h)).r1, (hq.mono (fun q h _ => by rw [HB.out.1]; exact h)).r2, (hq.mono (fun q h _ => by rw [HB.out.1]; exact h)).r3, (hq.mono (fun q h _ => by rw [HB.out.1]; exact h)).r4, (hq.mono (fun q h _ => by rw [HB.out.1]; exact h)).r5⟩)
          clear hs5 hf5 hBN hf45
          go_wp2_with fail
          go_meet
          exact HR.out
        · obtain rfl : d35 = false := by rw [← hd35]; exact decide_eq_false hmn
          clear hd35
          go_wp2_with fail
          go_meet
          exact ⟨by rw [if_neg (by omega)]; exact CfL.nil, Frm.refl _ _⟩
      case rest =>
        obtain ⟨hcf, hf3⟩ := hcut
        obtain ⟨w3, hw3⟩ : ∃ w3, w3 = wc := ⟨_, rfl⟩
        subst hw3
        have hlt4 : b4 < w2.heap.size := hX2.lt
        have hX3 := hX2.frm hf3 (fun h => h)
        have hY3 := hY2.frm hf3 (fun h => h)
        have hC3 := hC2.frm hf3 (fun _ _ h => h)
        have hf23 := hf2.trans hf3
        have hz3 := hf3.size
        clear x0 x1 x2 x3 x4 x5 x6 lx y0 y1 y2 y3 y4 y5 y6 y7 y8 y9 ly hX2 hY2 hC2 hd35 hf3
        obtain ⟨ps, hps, hS, hCs⟩ := hcf
        obtain ⟨A8, c8, rfl⟩ := hS.form
        obtain ⟨n8, hn8⟩ : ∃ n8, (if imn ≤ k then [(⟨yn, at_, began, frm, til, turns, last⟩ : RC)] else []).length = n8 := ⟨_, rfl⟩
        have hn8b : n8 ≤ 1 := by rw [← hn8]; split <;> simp
        have HPS := Lib.hid (⟨hps, hn8⟩ : _ ∧ _)
        rw [hn8] at hS ⊢
        clear hps hn8
        obtain ⟨⟨x0, x1, x2, x3, x4, x5, x6⟩, lx⟩ := blk7 hX3
        obtain ⟨⟨y0, y1, y2, y3, y4, y5, y6, y7, y8, y9⟩, ly⟩ := blk10 hY3
        obtain ⟨en, hen⟩ : ∃ d, decide (imx = -1 ∨ k < imx) = d := ⟨_, rfl⟩
        have HEN := Lib.hid hen
        go_upto_region 9 with fail
        go_cut [52] from 44 to 52 (fun v wx => v = .bool en ∧ wx = w3)
        case first =>
          by_cases e1 : imx = -1
          · have t1 : (imx == -1) = true := by simpa using e1
            obtain rfl : en = true := by rw [← hen]; exact decide_eq_true (.inl e1)
            clear hen e1
            go_wp2_with fail
            go_meet
            exact ⟨rfl, rfl⟩
          · have t1 : (imx == -1) = false := by simpa using e1
            have t2 : decide (k < imx) = en := by rw [← hen]; simp [e1]
            clear hen e1
            go_wp2_with fail
            go_meet
            exact ⟨rfl, rfl⟩
        case rest =>
          obtain ⟨rfl, rfl⟩ := hcut
          clear hen
          cases en with
          | false =>
            have hno : ¬ (imx = -1 ∨ k < imx) := of_decide_eq_false HEN.out
            have HR : Hid (CfL wc (fun q => w.heap.size ≤ q) (fun q => D q ∨ w.heap.size ≤ q) gr co (.slice A8 n8 c8) cs ∧ Frm (fun _ => False) w wc) := Lib.hid (by
              refine ⟨⟨ps, ?_, ?_, fun p hp => (hCs p hp).mono (fun q h _ => .inl h.1)⟩, hf23⟩
              · rw [← HCS2.out, if_neg hno, List.append_nil]; exact HPS.out.1
              · rw [← HCS2.out, if_neg hno, List.append_nil, HPS.out.2]; exact hS.mono (fun q h _ => by show w.heap.size ≤ q; have : w2.heap.size ≤ q := h; omega))
            clear hS hCs
            go_wp2_with fail
            go_ret
            exact ⟨_, rfl, HR.out⟩
          | true =>
            have hyes : imx = -1 ∨ k < imx := of_decide_eq_true HEN.out
            have HY := Lib.hid hyes
            clear hyes
            have hO := Blk.new wc [.int .i64 pc, .int .i64 at_, .slice a1 gr c1, .slice a2 gr c2, .slice a3 gr c3, .slice (some ⟨bt, ot, none⟩) co c4, .slice (some ⟨bl, ol, none⟩) co c5] 114
            have hfo : Frm (fun _ => False) wc (wc.alloc (.cells #[.int .i64 pc, .int .i64 at_, .slice a1 gr c1, .slice a2 gr c2, .slice a3 gr c3, .slice (some ⟨bt, ot, none⟩) co c4, .slice (some ⟨bl, ol, none⟩) co c5] 114)) := (Frm.refl _ _).alloc _
            have hY4 := hY3.frm hfo (fun h => h)
            have hX4 := hX3.frm hfo (fun h => h)
            have hC4 := hC3.frm hfo (fun _ _ h => h)
            go_upto_region 11 with fail
            have hS4 := hS.low.frm hfo (fun _ _ h => h)
            have hCs4 : ∀ p ∈ ps, CRd (wc.alloc (.cells #[.int .i64 pc, .int .i64 at_, .slice a1 gr c1, .slice a2 gr c2, .slice a3 gr c3, .slice (some ⟨bt, ot, none⟩) co c4, .slice (some ⟨bl, ol, none⟩) co c5] 114)) (fun q => D q ∧ q < w.heap.size) p.1 gr co p.2 := fun p hp => (hCs p hp).frm hfo (fun _ _ h => h)
            have hf4 := hf23.trans hfo
            clear x0 x1 x2 x3 x4 x5 x6 lx y0 y1 y2 y3 y4 y5 y6 y7 y8 y9 ly hX3 hY3 hC3 hS hCs hf23
            generalize wc.alloc (.cells #[.int .i64 pc, .int .i64 at_, .slice a1 gr c1, .slice a2 gr c2, .slice a3 gr c3, .slice (some ⟨bt, ot, none⟩) co c4, .slice (some ⟨bl, ol, none⟩) co c5] 114) = w4 at *
            obtain ⟨b10, hb10⟩ : ∃ b, wc.heap.size = b := ⟨_, rfl⟩
            have hzo := hfo.size
            simp only [hb10] at hO hzo hz3 hS4 ⊢
            have hn4 : b4 ≠ b10 := by omega
            have hn5 : b5 ≠ b10 := hY4.ne hO (by decide)
            have hn4' : b10 ≠ b4 := fun e => hn4 e.symm
            have hn5' : b10 ≠ b5 := fun e => hn5 e.symm
            clear hb10 hfo hzo
            obtain ⟨⟨y0, y1, y2, y3, y4, y5, y6, y7, y8, y9⟩, ly⟩ := blk10 hY4
            obtain ⟨⟨x0, x1, x2, x3, x4, x5, x6⟩, lx⟩ := blk7 hO
            have yf0 := hO.frozen 0
            have hb10w : w2.heap.size ≤ b10 := hz3
            have hset : Frm (fun q => q = b10) w4 (w4.setCell ⟨b10, 0, none⟩ (.int .i64 xn)) := (Frm.refl _ w4).set b10 0 _ (fun _ => rfl)
            have hO5 := hO.setSame 0 (.int .i64 xn)
            simp only [List.set_cons_zero] at hO5
            have hX5 := hX4.frm hset hn4
            have hY5 := hY4.frm hset hn5
            have hC5 := hC4.frm hset (fun q hq e => by have := hq.2; have := HB.out; omega)
            have hS5 : Sl (w4.setCell ⟨b10, 0, none⟩ (.int .i64 xn)) (fun q => w2.heap.size ≤ q ∧ q < b10) 114 7 (.slice A8 n8 c8) n8 (flatC gr co ps) := hS4.frm hset (fun q hq e => by have := hq.2; omega)
            have hCs5 : ∀ p ∈ ps, CRd (w4.setCell ⟨b10, 0, none⟩ (.int .i64 xn)) (fun q => D q ∧ q < w.heap.size) p.1 gr co p.2 := fun p hp => (hCs4 p hp).frm hset (fun q hq e => by have := hq.2; omega)
            have hf5 := hf4.then hset (fun q hq hl => by have : q = b10 := hq; omega)
            go_upto_region 12 with fail
            clear x0 x1 x2 x3 x4 x5 x6 lx y0 y1 y2 y3 y4 y5 y6 y7 y8 y9 ly yf0 hO hX4 hY4 hC4 hS4 hCs4 hf4 hset
            generalize w4.setCell ⟨b10, 0, none⟩ (.int .i64 xn) = w5 at *
            obtain ⟨⟨y0, y1, y2, y3, y4, y5, y6, y7, y8, y9⟩, ly⟩ := blk10 hY5
            obtain ⟨⟨x0, x1, x2, x3, x4, x5, x6⟩, lx⟩ := blk7 hX5
            have hwk : IntKind.i64.wrap (k + 1) = k + 1 := IntWalk.i64_in _ (by omega)
            have HW1 := Lib.hid (withC (some ⟨bt, ot, none⟩) co c4 kn (k + 1) turns _ w5 hC5.r4 hkn (by omega))
            go_wp2_with fail
            refine HW1.out.mono ?_
            rintro e w6 ⟨B6, d6, rfl, hr6, hf6⟩
            have hz56 := hf6.size
            have hl10 := hO5.lt
            have hO6 := hO5.frm hf6 (fun h => h)
            have hX6 := hX5.frm hf6 (fun h => h)
            have hY6 := hY5.frm hf6 (fun h => h)
            have hC6 := hC5.frm hf6 (fun _ _ h => h)
            have hS6 := hS5.frm hf6 (fun _ _ h => h)
            have hCs6 : ∀ p ∈ ps, CRd w6 (fun q => D q ∧ q < w.heap.size) p.1 gr co p.2 := fun p hp => (hCs5 p hp).frm hf6 (fun _ _ h => h)
            have hff6 := hf5.trans hf6
            clear x0 x1 x2 x3 x4 x5 x6 lx y0 y1 y2 y3 y4 y5 y6 y7 y8 y9 ly hO5 hX5 hY5 hC5 hS5 hCs5 hf5 hf6 HW1
            have hset : Frm (fun q => q = b10) w6 (w6.setCell ⟨b10, 5, none⟩ (.slice B6 co d6)) := (Frm.refl _ w6).set b10 5 _ (fun _ => rfl)
            have hO7 := hO6.setSame 5 (.slice B6 co d6)
            simp only [List.set_cons_zero, List.set_cons_succ] at hO7
            have hX7 := hX6.frm hset hn4
            have hY7 := hY6.frm hset hn5
            have hC7 := hC6.frm hset (fun q hq e => by have := hq.2; omega)
            have hS7 := hS6.frm hset (fun q hq e => by have := hq.2; omega)
            have hCs7 : ∀ p ∈ ps, CRd (w6.setCell ⟨b10, 5, none⟩ (.slice B6 co d6)) (fun q => D q ∧ q < w.heap.size) p.1 gr co p.2 := fun p hp => (hCs6 p hp).frm hset (fun q hq e => by have := hq.2; omega)
            have hr7 := hr6.rd.frm hset (fun q hq e => by have : w5.heap.size ≤ q := hq; omega)
            have hf7 := hff6.then hset (fun q hq hl => by have : q = b10 := hq; omega)
            obtain ⟨⟨y0, y1, y2, y3, y4, y5, y6, y7, y8, y9⟩, ly⟩ := blk10 hY6
            obtain ⟨⟨x0, x1, x2, x3, x4, x5, x6⟩, lx⟩ := blk7 hX6
            obtain ⟨⟨v0, v1, v2, v3, v4, v5, v6⟩, lv⟩ := blk7 hO6
            have vf5 := hO6.frozen 5
            go_upto_region 13 with fail
            clear x0 x1 x2 x3 x4 x5 x6 lx y0 y1 y2 y3 y4 y5 y6 y7 y8 y9 ly v0 v1 v2 v3 v4 v5 v6 lv vf5 hO6 hX6 hY6 hC6 hS6 hCs6 hff6 hset hr6
            generalize w6.setCell ⟨b10, 5, none⟩ (.slice B6 co d6) = w7 at *
            obtain ⟨⟨y0, y1, y2, y3, y4, y5, y6, y7, y8, y9⟩, ly⟩ := blk10 hY7
            obtain ⟨⟨x0, x1, x2, x3, x4, x5, x6⟩, lx⟩ := blk7 hX7
            have HW2 := Lib.hid (withC (some ⟨bl, ol, none⟩) co c5 kn at_ last _ w7 hC7.r5 hkn (by omega))
            go_wp2_with fail
            refine HW2.out.mono ?_
            rintro e w8 ⟨B7, d7, rfl, hr8, hf8⟩
            have hz78 := hf8.size
            have hl10' := hO7.lt
            have hO8 := hO7.frm hf8 (fun h => h)
            have hC8 := hC7.frm hf8 (fun _ _ h => h)
            have hS8 := hS7.frm hf8 (fun _ _ h => h)
            have hCs8 : ∀ p ∈ ps, CRd w8 (fun q => D q ∧ q < w.heap.size) p.1 gr co p.2 := fun p hp => (hCs7 p hp).frm hf8 (fun _ _ h => h)
            have hr9 := hr7.frm hf8 (fun _ _ h => h)
            have hff8 := hf7.trans hf8
            clear x0 x1 x2 x3 x4 x5 x6 lx y0 y1 y2 y3 y4 y5 y6 y7 y8 y9 ly hO7 hX7 hY7 hC7 hS7 hCs7 hf7 hf8 HW2 hr7
            have hset : Frm (fun q => q = b10) w8 (w8.setCell ⟨b10, 6, none⟩ (.slice B7 co d7)) := (Frm.refl _ w8).set b10 6 _ (fun _ => rfl)
            have hO9 := hO8.setSame 6 (.slice B7 co d7)
            simp only [List.set_cons_zero, List.set_cons_succ] at hO9
            have hC9 := hC8.frm hset (fun q hq e => by have := hq.2; omega)
            have hS9 := hS8.frm hset (fun q hq e => by have := hq.2; omega)
            have hCs9 : ∀ p ∈ ps, CRd (w8.setCell ⟨b10, 6, none⟩ (.slice B7 co d7)) (fun q => D q ∧ q < w.heap.size) p.1 gr co p.2 := fun p hp => (hCs8 p hp).frm hset (fun q hq e => by have := hq.2; omega)
            have hr10 := hr9.frm hset (fun q hq e => by have : w5.heap.size ≤ q := hq; omega)
            have hr11 := hr8.rd.frm hset (fun q hq e => by have : w7.heap.size ≤ q := hq; omega)
            have hf9 := hff8.then hset (fun q hq hl => by have : q = b10 := hq; omega)
            obtain ⟨⟨v0, v1, v2, v3, v4, v5, v6⟩, lv⟩ := blk7 hO8
            have vf6 := hO8.frozen 6
            go_upto_region 14 with fail
            clear v0 v1 v2 v3 v4 v5 v6 lv vf6 hO8 hC8 hS8 hCs8 hff8 hset hr8 hr9
            generalize w8.setCell ⟨b10, 6, none⟩ (.slice B7 co d7) = w9 at *
            obtain ⟨⟨v0, v1, v2, v3, v4, v5, v6⟩, lv⟩ := blk7 hO9
            go_wp2_with (with_reducible refine stop_at 76 rfl ?_)
            unfold Stop
            have hBN := Blk.new w9 [.int .i64 xn, .int .i64 at_, .slice a1 gr c1, .slice a2 gr c2, .slice a3 gr c3, .slice B6 co d6, .slice B7 co d7] 114
            have hfn : Frm (fun _ => False) w9 (w9.alloc (.cells #[.int .i64 xn, .int .i64 at_, .slice a1 gr c1, .slice a2 gr c2, .slice a3 gr c3, .slice B6 co d6, .slice B7 co d7] 114)) := (Frm.refl _ _).alloc _
            refine op_append rfl _ _ _ rfl 114 _ 7 136 Try.underlying115 infoC rfl (by omega) (hS9.low.frm hfn (fun _ _ h => h)) rfl ⟨w9.heap.size, 0, none⟩ 1 1 [.int .i64 xn, .int .i64 at_, .slice a1 gr c1, .slice a2 gr c2, .slice a3 gr c3, .slice B6 co d6, .slice B7 co d7] rfl rfl (fun j u hu => (hBN.cellAdd 0 j).trans (by rw [Nat.zero_add]; exact hu)) (flatC_one gr co [(⟨a1, a2, a3, B6, B7, c1, c2, c3, d6, d7⟩, ⟨xn, at_, began, frm, til, turns.set kn (k + 1), last.set kn at_⟩)]) (by simp only [maxLen]; omega) (by omega) ?_
            intro v10 w10 hf10 hs10
            have hzz := hf9.size
            have hzn := hfn.size
            have HR : Hid (CfL w10 (fun q => w.heap.size ≤ q) (fun q => D q ∨ w.heap.size ≤ q) gr co v10 cs ∧ Frm (fun _ => False) w w10) := Lib.hid (by
              refine ⟨⟨ps ++ [(⟨a1, a2, a3, B6, B7, c1, c2, c3, d6, d7⟩, ⟨xn, at_, began, frm, til, turns.set kn (k + 1), last.set kn at_⟩)], ?_, ?_, fun p hp => ?_⟩, (hf9.trans hfn).then hf10 (fun q h hl => by have := h.1.1; omega)⟩
              · rw [← HCS2.out, if_pos HY.out, List.map_append, HPS.out.1]; rfl
              · have hlen : cs.length = n8 + 1 := by rw [← HCS2.out, if_pos HY.out, List.length_append, HPS.out.2]; rfl
                rw [hlen]
                have e : flatC gr co (ps ++ [(⟨a1, a2, a3, B6, B7, c1, c2, c3, d6, d7⟩, ⟨xn, at_, began, frm, til, turns.set kn (k + 1), last.set kn at_⟩)]) = flatC gr co ps ++ [.int .i64 xn, .int .i64 at_, .slice a1 gr c1, .slice a2 gr c2, .slice a3 gr c3, .slice B6 co d6, .slice B7 co d7] := by unfold flatC; rw [List.flatMap_append]; rfl
                rw [e]
                exact hs10.mono (by rintro q (h | h) _; have := h.1.1; show w.heap.size ≤ q; omega; show w.heap.size ≤ q; omega)
              · rcases List.mem_append.1 hp with hp | hp
                · exact (((hCs9 p hp).frm hfn (fun _ _ h => h)).frm hf10 (fun q hq h => by have := hq.2; have := h.1.1; omega)).mono (fun q h _ => .inl h.1)
                · rw [List.mem_singleton] at hp; subst hp
                  have g1 := ((hC9.frm hfn (fun _ _ h => h)).frm hf10 (fun q hq h => by have := hq.2; have := h.1.1; omega)).mono (E := fun q => D q ∨ w.heap.size ≤ q) (fun q h _ => .inl h.1)
                  have g4 := ((hr10.frm hfn (fun _ _ h => h)).frm hf10 (fun q hq h => by have : w5.heap.size ≤ q := hq; have := h.1.2; omega)).mono (G := fun q => D q ∨ w.heap.size ≤ q) (fun q h _ => .inr (by have : w5.heap.size ≤ q := h; omega))
                  have g5 := ((hr11.frm hfn (fun _ _ h => h)).frm hf10 (fun q hq h => by have : w7.heap.size ≤ q := hq; have := h.1.2; omega)).mono (G := fun q => D q ∨ w.heap.size ≤ q) (fun q h _ => .inr (by have : w7.heap.size ≤ q := h; omega))
                  exact ⟨g1.r1, g1.r2, g1.r3, g4, g5⟩)
            obtain ⟨A10, c10, rfl⟩ := hs10.form
            clear hs10 hf10 hBN hfn
            go_wp2_with fail
            go_ret
            exact ⟨_, rfl, HR.out⟩
end Go.Proofs.Ytoadmpochaeohaa
end
