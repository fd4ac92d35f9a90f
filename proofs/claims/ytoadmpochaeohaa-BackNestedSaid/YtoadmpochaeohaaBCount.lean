/-
  Layer 20: counted, bracket.
-/
import Derived.Test.YtoadmpochaeohaaBTo
set_option linter.unusedVariables false
set_option linter.unusedSimpArgs false
set_option maxRecDepth 100000
namespace Go.Proofs.Ytoadmpochaeohaa
open Go.RowKit

theorem Sl.putAt {w : World} {F : Nat → Prop} {e : TypeId} {size b n c j : Nat} {xs : List Value} (h : Sl w F e size (.slice (some ⟨b, 0, none⟩) n c) n xs) (hj : j < xs.length) (x : Value) : Sl (w.setCell ⟨b, j, none⟩ x) F e size (.slice (some ⟨b, 0, none⟩) n c) n (xs.set j x) := by
  cases h with
  | @at_ g _ cap _ rest hF hb hx hr hn hm =>
    refine .at_ (rest := rest) hF ?_ (by rw [List.length_set]; exact hx) (by rw [List.length_append, List.length_set, ← List.length_append]; exact hr) hn hm
    have := Blk.setSame hb j x
    rwa [List.set_append_left _ _ hj] at this

theorem flatN_set : ∀ (l : List Tn) (k : Nat) (t : Tn), ((flatN l).set (k * 2) (.int .i64 t.many)).set (k * 2 + 1) (.int .i64 t.began) = flatN (l.set k t)
  | [], k, t => by simp [flatN]
  | x :: l, 0, t => rfl
  | x :: l, k + 1, t => by
    have ih := flatN_set l k t
    show ((.int .i64 x.many :: .int .i64 x.began :: flatN l).set ((k + 1) * 2) _).set ((k + 1) * 2 + 1) _ = .int .i64 x.many :: .int .i64 x.began :: flatN (l.set k t)
    rw [show (k + 1) * 2 + 1 = ((k * 2 + 1) + 1) + 1 by omega, show (k + 1) * 2 = (k * 2 + 1) + 1 by omega, List.set_cons_succ, List.set_cons_succ, List.set_cons_succ, List.set_cons_succ, ih]

set_option maxHeartbeats 1600000 in
theorem countedC (pc at_ : Int) (A B : Option Addr) (n cA m d : Nat) (l : List Tn) (k : Nat) (t : Tn) (G : Nat → Prop) (w : World) (hN : Rd w G 2 B m d (flatN l)) (hk : k < m) (hm : m ≤ 1048576) :
    Calls Try.prog 78 #[.agg #[.int .i64 pc, .int .i64 at_, .slice A n cA, .slice B m d], .int .i64 k, .agg #[.int .i64 t.many, .int .i64 t.began]] w fun e w' => ∃ B' d', e = .returned (.agg #[.int .i64 pc, .int .i64 at_, .slice A n cA, .slice B' m d']) ∧ Rd w' (fun k => w.heap.size ≤ k) 2 B' m d' (flatN (l.set k t)) ∧ Frm (fun _ => False) w w' := by
  have hX := ((Blk.new w [.int .i64 pc, .int .i64 at_, .slice A n cA, .slice B m d] 129).alloc (.cells #[.int .i64 t.many, .int .i64 t.began] 133)).alloc (.cells #[.int .i64 0, .int .i64 0, .slice none 0 0, .slice none 0 0] 129)
  have hT := (Blk.new (w.alloc (.cells #[.int .i64 pc, .int .i64 at_, .slice A n cA, .slice B m d] 129)) [.int .i64 t.many, .int .i64 t.began] 133).alloc (.cells #[.int .i64 0, .int .i64 0, .slice none 0 0, .slice none 0 0] 129)
  have hR := Blk.new ((w.alloc (.cells #[.int .i64 pc, .int .i64 at_, .slice A n cA, .slice B m d] 129)).alloc (.cells #[.int .i64 t.many, .int .i64 t.began] 133)) [.int .i64 0, .int .i64 0, .slice none 0 0, .slice none 0 0] 129
  have hf0 : Frm (fun _ => False) w (((w.alloc (.cells #[.int .i64 pc, .int .i64 at_, .slice A n cA, .slice B m d] 129)).alloc (.cells #[.int .i64 t.many, .int .i64 t.began] 133)).alloc (.cells #[.int .i64 0, .int .i64 0, .slice none 0 0, .slice none 0 0] 129)) := (((Frm.refl _ w).alloc _).alloc _).alloc _
  go_enter Try.func78, Try.ntmps78
  go_upto_region 1 with fail
  simp only [World.size_alloc] at hT hR
  generalize ((w.alloc (.cells #[.int .i64 pc, .int .i64 at_, .slice A n cA, .slice B m d] 129)).alloc (.cells #[.int .i64 t.many, .int .i64 t.began] 133)).alloc (.cells #[.int .i64 0, .int .i64 0, .slice none 0 0, .slice none 0 0] 129) = w1 at *
  have hz0 := hf0.size
  have hr1 := hR.lt
  obtain ⟨bX, hbX⟩ : ∃ bX, w.heap.size = bX := ⟨_, rfl⟩
  obtain ⟨bT, hbT⟩ : ∃ bT, bX + 1 = bT := ⟨_, rfl⟩
  obtain ⟨bR, hbR⟩ : ∃ bR, bT + 1 = bR := ⟨_, rfl⟩
  simp only [hbX, hbT, hbR] at hX hT hR hr1 ⊢
  have HB := Lib.hid (⟨hbX, hbT, hbR, hr1⟩ : w.heap.size = bX ∧ bX + 1 = bT ∧ bT + 1 = bR ∧ bR < w1.heap.size)
  clear hbX hbT hbR hz0 hr1
  have hml : l.length = m := by have := hN.len; rw [flatN_len] at this; omega
  have HCL := Lib.hid (cloneN B m d l G w1 (hN.frm hf0 (fun _ _ h => h)) hm)
  obtain ⟨x0, x1, x2, x3, y0, y1, y2, y3, lx⟩ := blk4 hX
  go_wp2_with fail
  refine HCL.out.mono ?_
  rintro e w2 ⟨B', d', rfl, hs2, hf2⟩
  have hX2 := hX.frm hf2 (fun h => h)
  have hT2 := hT.frm hf2 (fun h => h)
  have hR2 := hR.frm hf2 (fun h => h)
  clear x0 x1 x2 x3 y0 y1 y2 y3 lx HCL
  obtain ⟨b', rfl, hFb, hlb, cur, hcur, hget⟩ := hs2.head (by omega)
  obtain ⟨x0, x1, x2, x3, y0, y1, y2, y3, lx⟩ := blk4 hX2
  have hbne : bX < b' ∧ bT < b' ∧ bR < b' := by have := HB.out; omega
  have hX3 := hX2.setSame 3 (.slice (some ⟨b', 0, none⟩) m d')
  have hT3 := hT2.setOther bX 3 (.slice (some ⟨b', 0, none⟩) m d') (by have := HB.out; omega)
  have hR3 := hR2.setOther bX 3 (.slice (some ⟨b', 0, none⟩) m d') (by have := HB.out; omega)
  have hs3 := hs2.set bX 3 (.slice (some ⟨b', 0, none⟩) m d') (by have := HB.out; omega)
  have hcur3 := hcur.setOther bX 3 (.slice (some ⟨b', 0, none⟩) m d') (by omega)
  have hf3 := (hf0.trans hf2).set bX 3 (.slice (some ⟨b', 0, none⟩) m d') (fun h => by have := HB.out; omega)
  go_upto_region 2 with fail
  generalize w2.setCell ⟨bX, 3, none⟩ (.slice (some ⟨b', 0, none⟩) m d') = w3 at *
  clear x0 x1 x2 x3 y0 y1 y2 y3 lx
  simp only [List.set_cons_succ, List.set_cons_zero] at hX3
  obtain ⟨x0, x1, x2, x3, y0, y1, y2, y3, lx⟩ := blk4 hX3
  obtain ⟨t0, t1, u0, u1, lt⟩ := blk2 hT3
  obtain ⟨v0, v1, v2, v3, z0, z1, z2, z3, lv⟩ := blk4 hR3
  have hfl : (flatN l).length = m * 2 := by rw [flatN_len, hml]
  have p0 : w3.cell? ⟨b', k * 2, none⟩ = some ((flatN l)[k * 2]'(by omega)) := by rw [hcur3.cell, hget _ (by omega), List.getElem?_eq_getElem (by omega)]
  have p1 : w3.cell? ⟨b', k * 2 + 1, none⟩ = some ((flatN l)[k * 2 + 1]'(by omega)) := by rw [hcur3.cell, hget _ (by omega), List.getElem?_eq_getElem (by omega)]
  have q0 := hcur3.frozen (k * 2)
  have q1 := hcur3.frozen (k * 2 + 1)
  have hlb3 := hcur3.lt
  go_wp2_with fail
  have hs5 := (hs3.putAt (j := k * 2) (by omega) (.int .i64 t.many)).putAt (j := k * 2 + 1) (by rw [List.length_set]; omega) (.int .i64 t.began)
  rw [flatN_set] at hs5
  have hR5 := (((((hR3.setOther b' (k * 2) (.int .i64 t.many) (by omega)).setOther b' (k * 2 + 1) (.int .i64 t.began) (by omega)).setSame 0 (.int .i64 pc)).setSame 1 (.int .i64 at_)).setSame 2 (.slice A n cA)).setSame 3 (.slice (some ⟨b', 0, none⟩) m d')
  refine bodyPost_ret (results_one rfl (RV.cell rfl hR5 Try.underlying129 rfl (by kernel_rfl))) rfl ?_
  have hB := HB.out
  refine ⟨some ⟨b', 0, none⟩, d', rfl, ?_, ?_⟩
  · exact ((((hs5.set bR 0 _ (by omega)).set bR 1 _ (by omega)).set bR 2 _ (by omega)).set bR 3 _ (by omega)).rd.mono (fun i h _ => by omega)
  · exact (((((hf3.set b' (k * 2) _ (fun h => by omega)).set b' (k * 2 + 1) _ (fun h => by omega)).set bR 0 _ (fun h => by omega)).set bR 1 _ (fun h => by omega)).set bR 2 _ (fun h => by omega)).set bR 3 _ (fun h => by omega)
end Go.Proofs.Ytoadmpochaeohaa
