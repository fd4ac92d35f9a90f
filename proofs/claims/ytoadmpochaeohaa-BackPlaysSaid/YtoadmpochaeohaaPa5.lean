/-
  Layer 20: bracket.
-/
import Derived.Test.YtoadmpochaeohaaPa4
section
set_option linter.unusedVariables false
set_option linter.unusedSimpArgs false
set_option maxRecDepth 100000
namespace Go.Proofs.Ytoadmpochaeohaa
open Go.RowKit

theorem flatP_set : ∀ (l : List Pt) (k : Nat) (t : Pt), (((flatP l).set (k * 3) (.int .i64 t.began)).set (k * 3 + 1) (.int .i64 t.frm)).set (k * 3 + 2) (.int .i64 t.til) = flatP (l.set k t)
  | [], k, t => by simp [flatP]
  | x :: l, 0, t => rfl
  | x :: l, k + 1, t => by
    have ih := flatP_set l k t
    show (((.int .i64 x.began :: .int .i64 x.frm :: .int .i64 x.til :: flatP l).set ((k + 1) * 3) _).set ((k + 1) * 3 + 1) _).set ((k + 1) * 3 + 2) _ = .int .i64 x.began :: .int .i64 x.frm :: .int .i64 x.til :: flatP (l.set k t)
    rw [show (k + 1) * 3 + 2 = (((k * 3 + 2) + 1) + 1) + 1 by omega, show (k + 1) * 3 + 1 = (((k * 3 + 1) + 1) + 1) + 1 by omega, show (k + 1) * 3 = ((k * 3 + 1) + 1) + 1 by omega]
    simp only [List.set_cons_succ]
    rw [ih]
theorem flatP_get : ∀ (l : List Pt) (k : Nat) (t : Pt), l[k]? = some t → (flatP l)[k * 3]? = some (.int .i64 t.began) ∧ (flatP l)[k * 3 + 1]? = some (.int .i64 t.frm) ∧ (flatP l)[k * 3 + 2]? = some (.int .i64 t.til)
  | [], k, t, h => by simp at h
  | x :: l, 0, t, h => by simp at h; subst h; exact ⟨rfl, rfl, rfl⟩
  | x :: l, k + 1, t, h => by
    have ih := flatP_get l k t (by simpa using h)
    show (Value.int .i64 x.began :: .int .i64 x.frm :: .int .i64 x.til :: flatP l)[(k + 1) * 3]? = _ ∧ (Value.int .i64 x.began :: .int .i64 x.frm :: .int .i64 x.til :: flatP l)[(k + 1) * 3 + 1]? = _ ∧ (Value.int .i64 x.began :: .int .i64 x.frm :: .int .i64 x.til :: flatP l)[(k + 1) * 3 + 2]? = _
    rw [show (k + 1) * 3 + 2 = (((k * 3 + 2) + 1) + 1) + 1 by omega, show (k + 1) * 3 + 1 = (((k * 3 + 1) + 1) + 1) + 1 by omega, show (k + 1) * 3 = ((k * 3 + 1) + 1) + 1 by omega]
    simp only [List.getElem?_cons_succ]
    exact ih
theorem flatN_get : ∀ (l : List Tn) (k : Nat) (t : Tn), l[k]? = some t → (flatN l)[k * 2]? = some (.int .i64 t.many) ∧ (flatN l)[k * 2 + 1]? = some (.int .i64 t.began)
  | [], k, t, h => by simp at h
  | x :: l, 0, t, h => by simp at h; subst h; exact ⟨rfl, rfl⟩
  | x :: l, k + 1, t, h => by
    have ih := flatN_get l k t (by simpa using h)
    show (Value.int .i64 x.many :: .int .i64 x.began :: flatN l)[(k + 1) * 2]? = _ ∧ (Value.int .i64 x.many :: .int .i64 x.began :: flatN l)[(k + 1) * 2 + 1]? = _
    rw [show (k + 1) * 2 + 1 = ((k * 2 + 1) + 1) + 1 by omega, show (k + 1) * 2 = (k * 2 + 1) + 1 by omega]
    simp only [List.getElem?_cons_succ]
    exact ih

theorem flatP_one1 : ∀ (l : List Pt) (k : Nat) (p : Pt) (a b c : Int), l[k]? = some p → (flatP l).set (k * 3) (.int .i64 a) = flatP (l.set k ⟨a, p.frm, p.til⟩)
  | [], k, p, a, b, c, h => by simp at h
  | x :: l, 0, p, a, b, c, h => by simp at h; subst h; rfl
  | x :: l, k + 1, p, a, b, c, h => by
    have ih := flatP_one1 l k p a b c (by simpa using h)
    show (Value.int .i64 x.began :: .int .i64 x.frm :: .int .i64 x.til :: flatP l).set ((k + 1) * 3) (.int .i64 a) = .int .i64 x.began :: .int .i64 x.frm :: .int .i64 x.til :: flatP (l.set k ⟨a, p.frm, p.til⟩)
    simp only [show (k + 1) * 3 + 2 = (((k * 3 + 2) + 1) + 1) + 1 by omega, show (k + 1) * 3 + 1 = (((k * 3 + 1) + 1) + 1) + 1 by omega, show (k + 1) * 3 = ((k * 3 + 1) + 1) + 1 by omega, List.set_cons_succ]
    rw [ih]
theorem flatP_two : ∀ (l : List Pt) (k : Nat) (p : Pt) (a b c : Int), l[k]? = some p → ((flatP l).set (k * 3 + 1) (.int .i64 a)).set (k * 3 + 2) (.int .i64 b) = flatP (l.set k ⟨p.began, a, b⟩)
  | [], k, p, a, b, c, h => by simp at h
  | x :: l, 0, p, a, b, c, h => by simp at h; subst h; rfl
  | x :: l, k + 1, p, a, b, c, h => by
    have ih := flatP_two l k p a b c (by simpa using h)
    show ((Value.int .i64 x.began :: .int .i64 x.frm :: .int .i64 x.til :: flatP l).set ((k + 1) * 3 + 1) (.int .i64 a)).set ((k + 1) * 3 + 2) (.int .i64 b) = .int .i64 x.began :: .int .i64 x.frm :: .int .i64 x.til :: flatP (l.set k ⟨p.began, a, b⟩)
    simp only [show (k + 1) * 3 + 2 = (((k * 3 + 2) + 1) + 1) + 1 by omega, show (k + 1) * 3 + 1 = (((k * 3 + 1) + 1) + 1) + 1 by omega, show (k + 1) * 3 = ((k * 3 + 1) + 1) + 1 by omega, List.set_cons_succ]
    rw [ih]
theorem flatP_three : ∀ (l : List Pt) (k : Nat) (p : Pt) (a b c : Int), l[k]? = some p → (((flatP l).set (k * 3 + 1) (.int .i64 a)).set (k * 3 + 2) (.int .i64 b)).set (k * 3 + 1) (.int .i64 c) = flatP (l.set k ⟨p.began, c, b⟩)
  | [], k, p, a, b, c, h => by simp at h
  | x :: l, 0, p, a, b, c, h => by simp at h; subst h; rfl
  | x :: l, k + 1, p, a, b, c, h => by
    have ih := flatP_three l k p a b c (by simpa using h)
    show (((Value.int .i64 x.began :: .int .i64 x.frm :: .int .i64 x.til :: flatP l).set ((k + 1) * 3 + 1) (.int .i64 a)).set ((k + 1) * 3 + 2) (.int .i64 b)).set ((k + 1) * 3 + 1) (.int .i64 c) = .int .i64 x.began :: .int .i64 x.frm :: .int .i64 x.til :: flatP (l.set k ⟨p.began, c, b⟩)
    simp only [show (k + 1) * 3 + 2 = (((k * 3 + 2) + 1) + 1) + 1 by omega, show (k + 1) * 3 + 1 = (((k * 3 + 1) + 1) + 1) + 1 by omega, show (k + 1) * 3 = ((k * 3 + 1) + 1) + 1 by omega, List.set_cons_succ]
    rw [ih]
/-- What a group's beginning or end makes of the parts. -/
def brkS (parts : List Pt) (g : Int) (op at_ : Int) : List Pt :=
  if g < 0 then parts else
    let p := parts.getD g.toNat ⟨-1, -1, -1⟩
    if op = 6 then parts.set g.toNat { p with began := at_ } else parts.set g.toNat ⟨p.began, if p.began < 0 then at_ else p.began, at_⟩

set_option maxHeartbeats 4000000 in
theorem bracketC (b : Nat) (cs : List Value) (SA : Option Addr) (sn sc : Nat) (slot : List Int) (pc at_ : Int) (A B : Option Addr) (n cA m d : Nat) (l : List Pt) (i : Ins) (k : Nat) (g : Int) (D : Nat → Prop) (w : World)
    (hB : Blk w b cs 78) (hc : cs[5]? = some (.slice SA sn sc)) (hS : Rd w D 1 SA sn sc (slot.map I64)) (hin : i.n = k) (hk : slot[k]? = some g) (hP : Rd w D 3 A n cA (flatP l)) (hn : n ≤ 1048576) (hg : g < n) (hop : i.op = 6 ∨ i.op = 7) :
    Calls Try.prog 76 #[.pointer (some ⟨b, 0, none⟩), .agg #[.int .i64 pc, .int .i64 at_, .slice A n cA, .slice B m d], i.val] w fun e w' => ∃ A' c', e = .returned (.agg #[.int .i64 pc, .int .i64 at_, .slice A' n c', .slice B m d]) ∧ Rd w' (fun k => D k ∨ w.heap.size ≤ k) 3 A' n c' (flatP (brkS l g i.op at_)) ∧ Frm (fun _ => False) w w' := by
  obtain ⟨iop, ix, iy, i_n, imn, imx, is0, is1, is2, is3⟩ := i
  simp only at hin hop
  subst hin
  simp only [Ins.val]
  obtain ⟨L', hL⟩ : ∃ L', brkS l g iop at_ = L' := ⟨_, rfl⟩
  rw [hL]
  have HL := Lib.hid hL
  clear hL
  have hX := ((Blk.new w [.int .i64 pc, .int .i64 at_, .slice A n cA, .slice B m d] 129).alloc (.cells #[.int .i64 iop, .int .i64 ix, .int .i64 iy, .int .i64 k, .int .i64 imn, .int .i64 imx, .int .u64 is0, .int .u64 is1, .int .u64 is2, .int .u64 is3] 39)).alloc (.cells #[.int .i64 0, .int .i64 0, .slice none 0 0, .slice none 0 0] 129)
  have hT := (Blk.new (w.alloc (.cells #[.int .i64 pc, .int .i64 at_, .slice A n cA, .slice B m d] 129)) [.int .i64 iop, .int .i64 ix, .int .i64 iy, .int .i64 k, .int .i64 imn, .int .i64 imx, .int .u64 is0, .int .u64 is1, .int .u64 is2, .int .u64 is3] 39).alloc (.cells #[.int .i64 0, .int .i64 0, .slice none 0 0, .slice none 0 0] 129)
  have hR := Blk.new ((w.alloc (.cells #[.int .i64 pc, .int .i64 at_, .slice A n cA, .slice B m d] 129)).alloc (.cells #[.int .i64 iop, .int .i64 ix, .int .i64 iy, .int .i64 k, .int .i64 imn, .int .i64 imx, .int .u64 is0, .int .u64 is1, .int .u64 is2, .int .u64 is3] 39)) [.int .i64 0, .int .i64 0, .slice none 0 0, .slice none 0 0] 129
  have hf0 : Frm (fun _ => False) w (((w.alloc (.cells #[.int .i64 pc, .int .i64 at_, .slice A n cA, .slice B m d] 129)).alloc (.cells #[.int .i64 iop, .int .i64 ix, .int .i64 iy, .int .i64 k, .int .i64 imn, .int .i64 imx, .int .u64 is0, .int .u64 is1, .int .u64 is2, .int .u64 is3] 39)).alloc (.cells #[.int .i64 0, .int .i64 0, .slice none 0 0, .slice none 0 0] 129)) := (((Frm.refl _ w).alloc _).alloc _).alloc _
  go_enter Try.func76, Try.ntmps76
  go_upto_region 1 with fail
  simp only [World.size_alloc] at hT hR
  generalize ((w.alloc (.cells #[.int .i64 pc, .int .i64 at_, .slice A n cA, .slice B m d] 129)).alloc (.cells #[.int .i64 iop, .int .i64 ix, .int .i64 iy, .int .i64 k, .int .i64 imn, .int .i64 imx, .int .u64 is0, .int .u64 is1, .int .u64 is2, .int .u64 is3] 39)).alloc (.cells #[.int .i64 0, .int .i64 0, .slice none 0 0, .slice none 0 0] 129) = w1 at *
  have hz0 := hf0.size
  have hr1 := hR.lt
  obtain ⟨bX, hbX⟩ : ∃ bX, w.heap.size = bX := ⟨_, rfl⟩
  obtain ⟨bT, hbT⟩ : ∃ bT, bX + 1 = bT := ⟨_, rfl⟩
  obtain ⟨bR, hbR⟩ : ∃ bR, bT + 1 = bR := ⟨_, rfl⟩
  simp only [hbX, hbT, hbR] at hX hT hR hr1 ⊢
  have HB := Lib.hid (⟨hbX, hbT, hbR, hr1⟩ : w.heap.size = bX ∧ bX + 1 = bT ∧ bT + 1 = bR ∧ bR < w1.heap.size)
  clear hbX hbT hbR hz0 hr1
  have hml : l.length = n := by have := hP.len; rw [flatP_len] at this; omega
  have HCL := Lib.hid (fun w' (hf : Frm (fun _ => False) w1 w') => cloneP A n cA l D w' ((hP.frm hf0 (fun _ _ h => h)).frm hf (fun _ _ h => h)) hn)
  have b5 := (hB.frm hf0 (fun h => h)).cell 5
  rw [hc] at b5
  have lb := (hB.frm hf0 (fun h => h)).lt
  have hS1 := hS.frm hf0 (fun _ _ h => h)
  obtain ⟨sb, so, z, rfl, hsb, hz, hsc⟩ := hS1.cell1 k (by have := hS1.len; rw [List.length_map] at this; have := (List.getElem?_eq_some_iff.1 hk).1; omega)
  rw [hk] at hz
  cases hz
  have hks : (k : Int) < sn := by have := hS1.len; rw [List.length_map] at this; have := (List.getElem?_eq_some_iff.1 hk).1; omega
  obtain ⟨x0, x1, x2, x3, y0, y1, y2, y3, lx⟩ := blk4 hX
  have t0 := hT.cell 0
  have t3 := hT.cell 3
  simp only [List.getElem?_cons_zero, List.getElem?_cons_succ] at t0 t3
  have lt := hT.lt
  go_quiet (fail)
  have hf2 : Frm (fun _ => False) w1 (w1.drewN nq) := (Frm.refl _ _).drewN nq
  have hX2 := hX.drewN nq
  have hT2 := hT.drewN nq
  have hR2 := hR.drewN nq
  have HCL2 := Lib.hid (HCL.out _ hf2)
  have hff := hf0.trans hf2
  have hP2 := (hP.frm hf0 (fun _ _ h => h)).frm hf2 (fun _ _ h => h)
  have hsz : (w1.drewN nq).heap.size = w1.heap.size := rfl
  have HB2 : Hid (w.heap.size = bX ∧ bX + 1 = bT ∧ bT + 1 = bR ∧ bR < (w1.drewN nq).heap.size) := Lib.hid HB.out
  clear hX hT hR hf0 x0 x1 x2 x3 y0 y1 y2 y3 lx t0 t3 lt b5 lb hsz hsc hS1 HCL HB hf2
  generalize w1.drewN nq = w2 at *
  obtain ⟨x0, x1, x2, x3, y0, y1, y2, y3, lx⟩ := blk4 hX2
  obtain ⟨v0, v1, v2, v3, z0, z1, z2, z3, lv⟩ := blk4 hR2
  by_cases hg0 : g < 0
  · obtain rfl : L' = l := by rw [← HL.out, brkS, if_pos hg0]
    go_wp2_with fail
    refine bodyPost_ret (results_one rfl (RV.cell rfl ((((hR2.setSame 0 (.int .i64 pc)).setSame 1 (.int .i64 at_)).setSame 2 (.slice A n cA)).setSame 3 (.slice B m d)) Try.underlying129 rfl (by kernel_rfl))) rfl ?_
    have hB := HB2.out
    have hfe := (((hff.set bR 0 (.int .i64 pc) (fun h => by omega)).set bR 1 (.int .i64 at_) (fun h => by omega)).set bR 2 (.slice A n cA) (fun h => by omega)).set bR 3 (.slice B m d) (fun h => by omega)
    exact ⟨A, cA, rfl, (hP.frm hfe (fun _ _ h => h)).mono (fun i h _ => .inl h), hfe⟩
  · obtain ⟨gn, rfl⟩ := Int.eq_ofNat_of_zero_le (Int.not_lt.1 hg0)
    have hgn : gn < n := by omega
    obtain ⟨p, hp⟩ : ∃ p, l[gn]? = some p := ⟨_, List.getElem?_eq_getElem (by omega)⟩
    have hpd : l.getD gn ⟨-1, -1, -1⟩ = p := by rw [List.getD_eq_getElem?_getD, hp]; rfl
    obtain ⟨hg1, hg2, hg3⟩ := flatP_get l gn p hp
    have HPD := Lib.hid hpd
    clear hpd
    go_wp2_with fail
    refine HCL2.out.mono ?_
    rintro e w3 ⟨B', d', rfl, hs3, hf3⟩
    have hX3 := hX2.frm hf3 (fun h => h)
    have hT3 := hT2.frm hf3 (fun h => h)
    have hR3 := hR2.frm hf3 (fun h => h)
    have hff3 := hff.trans hf3
    obtain ⟨b', rfl, hFb, hlb, cur, hcur, hget⟩ := hs3.head (by omega)
    have hfl : (flatP l).length = n * 3 := by rw [flatP_len, hml]
    have hB := HB2.out
    have hX4 := hX3.setSame 2 (.slice (some ⟨b', 0, none⟩) n d')
    have hT4 := hT3.setOther bX 2 (.slice (some ⟨b', 0, none⟩) n d') (by omega)
    have hR4 := hR3.setOther bX 2 (.slice (some ⟨b', 0, none⟩) n d') (by omega)
    have hs4 := hs3.set bX 2 (.slice (some ⟨b', 0, none⟩) n d') (by omega)
    have hcur4 := hcur.setOther bX 2 (.slice (some ⟨b', 0, none⟩) n d') (by omega)
    have hff4 := hff3.set bX 2 (.slice (some ⟨b', 0, none⟩) n d') (fun h => by omega)
    clear x0 x1 x2 x3 y0 y1 y2 y3 lx v0 v1 v2 v3 z0 z1 z2 z3 lv
    obtain ⟨x0, x1, x2, x3, y0, y1, y2, y3, lx⟩ := blk4 hX3
    have HB3 : Hid (w.heap.size = bX ∧ bX + 1 = bT ∧ bT + 1 = bR ∧ bR < b' ∧ w2.heap.size ≤ b') := Lib.hid ⟨hB.1, hB.2.1, hB.2.2.1, by omega, hFb⟩
    clear hB
    go_upto_region 5 with fail
    generalize w3.setCell ⟨bX, 2, none⟩ (.slice (some ⟨b', 0, none⟩) n d') = w4 at *
    clear x0 x1 x2 x3 y0 y1 y2 y3 lx
    simp only [List.set_cons_succ, List.set_cons_zero] at hX4
    obtain ⟨x0, x1, x2, x3, y0, y1, y2, y3, lx⟩ := blk4 hX4
    have t0 := hT4.cell 0
    simp only [List.getElem?_cons_zero] at t0
    have lt := hT4.lt
    obtain ⟨v0, v1, v2, v3, z0, z1, z2, z3, lv⟩ := blk4 hR4
    have pp : ∀ j, j < n * 3 → w4.cell? ⟨b', j, none⟩ = (flatP l)[j]? := fun j hj => by rw [hcur4.cell, hget _ (by omega)]
    have p0 := pp (gn * 3) (by omega)
    have p1 := pp (gn * 3 + 1) (by omega)
    have p2 := pp (gn * 3 + 2) (by omega)
    rw [hg1] at p0
    rw [hg2] at p1
    rw [hg3] at p2
    have q0 := hcur4.frozen (gn * 3)
    have q1 := hcur4.frozen (gn * 3 + 1)
    have q2 := hcur4.frozen (gn * 3 + 2)
    have hlb4 := hcur4.lt
    have HGET := Lib.hid (⟨hg1, hg2, hg3, hp⟩ : _ ∧ _ ∧ _ ∧ _)
    clear hg1 hg2 hg3 hp pp hget
    have fin : ∀ (wz : World) (ys : List Value), Sl wz (fun k => w2.heap.size ≤ k) 131 3 (.slice (some ⟨b', 0, none⟩) n d') n ys → ys = flatP L' → Frm (fun _ => False) w wz →
        Rd ((((wz.setCell ⟨bR, 0, none⟩ (.int .i64 pc)).setCell ⟨bR, 1, none⟩ (.int .i64 at_)).setCell ⟨bR, 2, none⟩ (.slice (some ⟨b', 0, none⟩) n d')).setCell ⟨bR, 3, none⟩ (.slice B m d)) (fun k => D k ∨ w.heap.size ≤ k) 3 (some ⟨b', 0, none⟩) n d' (flatP L') ∧
        Frm (fun _ => False) w ((((wz.setCell ⟨bR, 0, none⟩ (.int .i64 pc)).setCell ⟨bR, 1, none⟩ (.int .i64 at_)).setCell ⟨bR, 2, none⟩ (.slice (some ⟨b', 0, none⟩) n d')).setCell ⟨bR, 3, none⟩ (.slice B m d)) := by
      intro wz ys h1 h2 h3
      have hB := HB3.out
      have hz := hff.size
      have hlo := lv
      subst h2
      have hbr : bR < w2.heap.size := HB2.out.2.2.2
      exact ⟨((((h1.set bR 0 _ (by omega)).set bR 1 _ (by omega)).set bR 2 _ (by omega)).set bR 3 _ (by omega)).rd.mono (fun i h _ => .inr (by omega)), (((h3.set bR 0 _ (fun h => by omega)).set bR 1 _ (fun h => by omega)).set bR 2 _ (fun h => by omega)).set bR 3 _ (fun h => by omega)⟩
    have FIN := Lib.hid fin
    have HLT : Hid (w.heap.size ≤ b' ∧ bR ≠ b' ∧ bX ≠ b') := Lib.hid ⟨by have := HB3.out; omega, by have := HB3.out; omega, by have := HB3.out; omega⟩
    clear fin
    by_cases h6 : iop = 6
    · subst h6
      have hL' : (flatP l).set (gn * 3) (.int .i64 at_) = flatP L' := by
        rw [flatP_one1 l gn p at_ 0 0 HGET.out.2.2.2, ← HL.out, brkS, if_neg (by omega)]
        simp only [Int.toNat_natCast, HPD.out, if_true]
      have HLL := Lib.hid hL'
      clear hL'
      have hs5 := hs4.putAt (j := gn * 3) (by omega) (.int .i64 at_)
      have hR5 := hR4.setOther b' (gn * 3) (.int .i64 at_) HLT.out.2.1
      have hX5 := hX4.setOther b' (gn * 3) (.int .i64 at_) HLT.out.2.2
      have hf5 := hff4.set b' (gn * 3) (.int .i64 at_) (fun h => by have := HLT.out; omega)
      go_upto_region 8 with fail
      generalize w4.setCell ⟨b', gn * 3, none⟩ (.int .i64 at_) = w5 at *
      clear x0 x1 x2 x3 y0 y1 y2 y3 lx v0 v1 v2 v3 z0 z1 z2 z3 lv p0 p1 p2 q0 q1 q2
      obtain ⟨x0, x1, x2, x3, y0, y1, y2, y3, lx⟩ := blk4 hX5
      obtain ⟨v0, v1, v2, v3, z0, z1, z2, z3, lv⟩ := blk4 hR5
      go_wp2_with fail
      refine bodyPost_ret (results_one rfl (RV.cell rfl ((((hR5.setSame 0 (.int .i64 pc)).setSame 1 (.int .i64 at_)).setSame 2 (.slice (some ⟨b', 0, none⟩) n d')).setSame 3 (.slice B m d)) Try.underlying129 rfl (by kernel_rfl))) rfl ?_
      obtain ⟨g1, g2⟩ := FIN.out _ _ hs5 HLL.out hf5
      exact ⟨some ⟨b', 0, none⟩, d', rfl, g1, g2⟩
    · have h7 : iop = 7 := by omega
      subst h7
      have hL' : (p.began < 0 → (((flatP l).set (gn * 3 + 1) (.int .i64 p.began)).set (gn * 3 + 2) (.int .i64 at_)).set (gn * 3 + 1) (.int .i64 at_) = flatP L') ∧ (¬ (p.began < 0) → ((flatP l).set (gn * 3 + 1) (.int .i64 p.began)).set (gn * 3 + 2) (.int .i64 at_) = flatP L') := by
        constructor
        · intro hb0
          rw [flatP_three l gn p _ _ _ HGET.out.2.2.2, ← HL.out, brkS, if_neg (by omega)]
          simp only [Int.toNat_natCast, HPD.out, if_pos hb0]
          rfl
        · intro hb0
          rw [flatP_two l gn p _ _ 0 HGET.out.2.2.2, ← HL.out, brkS, if_neg (by omega)]
          simp only [Int.toNat_natCast, HPD.out, if_neg hb0]
          rfl
      have HLL := Lib.hid hL'
      clear hL'
      have hne1 : bX ≠ b' := HLT.out.2.2
      have hne2 : b' ≠ bX := fun h => hne1 h.symm
      go_wp2_with fail
      go_region
      all_goals
        have hs5 := ((hs4.putAt (j := gn * 3 + 1) (by omega) (.int .i64 p.began)).putAt (j := gn * 3 + 2) (by rw [List.length_set]; omega) (.int .i64 at_)).drew
        have hc5 := ((hcur4.setSame (gn * 3 + 1) (.int .i64 p.began)).setSame (gn * 3 + 2) (.int .i64 at_)).drew
        have hR5 := ((hR4.setOther b' (gn * 3 + 1) (.int .i64 p.began) HLT.out.2.1).setOther b' (gn * 3 + 2) (.int .i64 at_) HLT.out.2.1).drew
        have hX5 := ((hX4.setOther b' (gn * 3 + 1) (.int .i64 p.began) HLT.out.2.2).setOther b' (gn * 3 + 2) (.int .i64 at_) HLT.out.2.2).drew
        have hf5 := ((hff4.set b' (gn * 3 + 1) (.int .i64 p.began) (fun h => by have := HLT.out; omega)).set b' (gn * 3 + 2) (.int .i64 at_) (fun h => by have := HLT.out; omega)).drew
        generalize ((w4.setCell ⟨b', gn * 3 + 1, none⟩ (.int .i64 p.began)).setCell ⟨b', gn * 3 + 2, none⟩ (.int .i64 at_)).drew = w5 at *
        have hcl : gn * 3 + 2 < cur.length := by
          have h1 := hcur4.cell (gn * 3 + 2)
          rw [p2] at h1
          exact (List.getElem?_eq_some_iff.1 h1.symm).1
        have r0 : w5.cell? ⟨b', gn * 3, none⟩ = some (.int .i64 p.began) := by
          rw [hc5.cell, List.getElem?_set_ne (by omega), List.getElem?_set_ne (by omega), ← hcur4.cell]; exact p0
        have r1 : w5.cell? ⟨b', gn * 3 + 1, none⟩ = some (.int .i64 p.began) := by
          rw [hc5.cell, List.getElem?_set_ne (by omega), List.getElem?_set_self (by omega)]
        have s1 := hc5.frozen (gn * 3 + 1)
        have ls := hc5.lt
        clear x0 x1 x2 x3 y0 y1 y2 y3 lx v0 v1 v2 v3 z0 z1 z2 z3 lv p0 p1 p2 q0 q1 q2
        obtain ⟨x0, x1, x2, x3, y0, y1, y2, y3, lx⟩ := blk4 hX5
        obtain ⟨v0, v1, v2, v3, z0, z1, z2, z3, lv⟩ := blk4 hR5
        by_cases hb0 : p.began < 0
        · have hll := HLL.out.1 hb0
          have hs6 := hs5.putAt (j := gn * 3 + 1) (by simp only [List.length_set]; omega) (.int .i64 at_)
          have hR6 := hR5.setOther b' (gn * 3 + 1) (.int .i64 at_) HLT.out.2.1
          have hX6 := hX5.setOther b' (gn * 3 + 1) (.int .i64 at_) HLT.out.2.2
          have hf6 := hf5.set b' (gn * 3 + 1) (.int .i64 at_) (fun h => by have := HLT.out; omega)
          have HL6 := Lib.hid hll
          clear hll
          go_upto_region 12 with fail
          generalize w5.setCell ⟨b', gn * 3 + 1, none⟩ (.int .i64 at_) = w6 at *
          clear x0 x1 x2 x3 y0 y1 y2 y3 lx v0 v1 v2 v3 z0 z1 z2 z3 lv r0 r1 s1 ls
          obtain ⟨x0, x1, x2, x3, y0, y1, y2, y3, lx⟩ := blk4 hX6
          obtain ⟨v0, v1, v2, v3, z0, z1, z2, z3, lv⟩ := blk4 hR6
          go_wp2_with fail
          refine bodyPost_ret (results_one rfl (RV.cell rfl ((((hR6.setSame 0 (.int .i64 pc)).setSame 1 (.int .i64 at_)).setSame 2 (.slice (some ⟨b', 0, none⟩) n d')).setSame 3 (.slice B m d)) Try.underlying129 rfl (by kernel_rfl))) rfl ?_
          obtain ⟨g1, g2⟩ := FIN.out _ _ hs6 HL6.out hf6
          exact ⟨some ⟨b', 0, none⟩, d', rfl, g1, g2⟩
        · have hll := HLL.out.2 (by omega)
          have HL6 := Lib.hid hll
          clear hll
          go_wp2_with fail
          refine bodyPost_ret (results_one rfl (RV.cell rfl ((((hR5.setSame 0 (.int .i64 pc)).setSame 1 (.int .i64 at_)).setSame 2 (.slice (some ⟨b', 0, none⟩) n d')).setSame 3 (.slice B m d)) Try.underlying129 rfl (by kernel_rfl))) rfl ?_
          obtain ⟨g1, g2⟩ := FIN.out _ _ hs5 HL6.out hf5
          exact ⟨some ⟨b', 0, none⟩, d', rfl, g1, g2⟩
end Go.Proofs.Ytoadmpochaeohaa
end
