/-
  The law's 'lent' and 'back': a program in memory of its own, with two marked instructions behind it.
-/
import Derived.Test.YtamiliccnbkipaaRSame
set_option linter.unusedVariables false
set_option linter.unusedSimpArgs false
namespace Go.Proofs.Ytamiliccnbkipaa
open Go.RowKit

def mk7 : Ins := ⟨-7, 0, 0, 0, 0, 0, 0, 0, 0, 0⟩

set_option maxHeartbeats 4000000 in
set_option maxRecDepth 100000 in
theorem lentC (A : Option Addr) (n cp : Nat) (gr co : Int) (fo : Bool) (ins : List Ins) (G : Nat → Prop) (w : World) (hrd : Rd w G 10 A n cp (flatI ins)) (hn : n ≤ 1048576) :
    Calls Try.prog 10 #[.agg #[.slice A n cp, .int .i64 gr, .int .i64 co, .bool fo]] w fun e w' => ∃ B c, e = .returned (.agg #[.slice B n c, .int .i64 gr, .int .i64 co, .bool fo]) ∧ Sl w' (fun k => w.heap.size ≤ k) 50 10 (.slice B (n + 2) c) (n + 2) (flatI (ins ++ [mk7, mk7])) ∧ Frm (fun _ => False) w w' := by
  have hf0 : Frm (fun _ => False) w ((w.alloc (.cells #[.slice A n cp, .int .i64 gr, .int .i64 co, .bool fo] 24)).alloc (.cells #[.slice none 0 0, .int .i64 0, .int .i64 0, .bool false] 24)) := ((Frm.refl _ w).alloc _).alloc _
  have hP := (Blk.new w [.slice A n cp, .int .i64 gr, .int .i64 co, .bool fo] 24).alloc (.cells #[.slice none 0 0, .int .i64 0, .int .i64 0, .bool false] 24)
  have hQ := Blk.new (w.alloc (.cells #[.slice A n cp, .int .i64 gr, .int .i64 co, .bool fo] 24)) [.slice none 0 0, .int .i64 0, .int .i64 0, .bool false] 24
  rw [World.size_alloc] at hQ
  go_enter Try.func10, Try.ntmps10
  go_upto_region 1 with fail
  have hz0 := hf0.size
  generalize (w.alloc (.cells #[.slice A n cp, .int .i64 gr, .int .i64 co, .bool fo] 24)).alloc (.cells #[.slice none 0 0, .int .i64 0, .int .i64 0, .bool false] 24) = w1 at *
  generalize hbq : w.heap.size + 1 = bq at *
  generalize hbp : w.heap.size = bp at *
  obtain ⟨p0, p1, p2, p3, g0, g1, g2, g3, lp⟩ := blk4 hP
  have lq := hQ.lt
  go_wp2_with (with_reducible refine stop_at 7 rfl ?_)
  unfold Stop
  refine op_appendRd rfl _ _ _ rfl 50 _ 10 80 Try.underlying22 infoIns rfl (by omega) (F := fun _ => False) Sl.nil rfl (hrd.frm hf0 (fun _ _ h => h)) rfl (ins_one ins) (by simp only [maxLen]; omega) (by omega) ?_
  intro v2 w2 hf2 hs2
  rw [Nat.zero_add, List.nil_append] at hs2
  obtain ⟨A2, c2, rfl⟩ := hs2.form
  have hs2 := hs2.mono (G := fun k => w1.heap.size ≤ k ∧ k < w2.heap.size) (by rintro k (h | h) hk; exact h.elim; exact ⟨h, hk⟩)
  have hP2 := (hP.frm hf2 (fun h => h)).alloc (.cells #[.int .i64 (-7), .int .i64 0, .int .i64 0, .int .i64 0, .int .i64 0, .int .i64 0, .int .u64 0, .int .u64 0, .int .u64 0, .int .u64 0] 50)
  have hQ2 := (hQ.frm hf2 (fun h => h)).alloc (.cells #[.int .i64 (-7), .int .i64 0, .int .i64 0, .int .i64 0, .int .i64 0, .int .i64 0, .int .u64 0, .int .u64 0, .int .u64 0, .int .u64 0] 50)
  have hM := Blk.new w2 [.int .i64 (-7), .int .i64 0, .int .i64 0, .int .i64 0, .int .i64 0, .int .i64 0, .int .u64 0, .int .u64 0, .int .u64 0, .int .u64 0] 50
  have hs3 := hs2.alloc (.cells #[.int .i64 (-7), .int .i64 0, .int .i64 0, .int .i64 0, .int .i64 0, .int .i64 0, .int .u64 0, .int .u64 0, .int .u64 0, .int .u64 0] 50)
  have hf3 := (hf0.trans hf2).alloc (.cells #[.int .i64 (-7), .int .i64 0, .int .i64 0, .int .i64 0, .int .i64 0, .int .i64 0, .int .u64 0, .int .u64 0, .int .u64 0, .int .u64 0] 50)
  clear p0 p1 p2 p3 g0 g1 g2 g3 lp
  go_upto_region 3 with fail
  have hz2 := hf2.size
  generalize hw3 : w2.alloc (.cells #[.int .i64 (-7), .int .i64 0, .int .i64 0, .int .i64 0, .int .i64 0, .int .i64 0, .int .u64 0, .int .u64 0, .int .u64 0, .int .u64 0] 50) = w3 at *
  have hz3 : w3.heap.size = w2.heap.size + 1 := by rw [← hw3]; simp
  generalize hbm : w2.heap.size = bm at *
  clear hw3
  have m0 := hM.cell 0
  have m1 := hM.cell 1
  have m2 := hM.cell 2
  have m3 := hM.cell 3
  have m4 := hM.cell 4
  have m5 := hM.cell 5
  have m6 := hM.cell 6
  have m7 := hM.cell 7
  have m8 := hM.cell 8
  have m9 := hM.cell 9
  simp only [List.getElem?_cons_zero, List.getElem?_cons_succ] at m0 m1 m2 m3 m4 m5 m6 m7 m8 m9
  have lm := hM.lt
  obtain ⟨p0, p1, p2, p3, g0, g1, g2, g3, lp⟩ := blk4 hP2
  have hS := Lib.hid hs3
  have hbpl : bp < bm := by omega
  have HZ3 := Lib.hid hz3
  have HBM := Lib.hid (⟨hz0, hz2, hbp, hbm⟩ : _ ∧ _ ∧ _ ∧ _)
  have hbmw : bm < w3.heap.size := by omega
  have hw1z : w1.heap.size ≤ bm := by omega
  clear hz3 hbm
  go_region_law (refine step_append rfl _ _ _ rfl 50 _ 10 80 Try.underlying22 infoIns rfl (by omega) ((hS.out.alloc (.cells #[.int .i64 (-7), .int .i64 0, .int .i64 0, .int .i64 0, .int .i64 0, .int .i64 0, .int .u64 0, .int .u64 0, .int .u64 0, .int .u64 0, .int .i64 (-7), .int .i64 0, .int .i64 0, .int .i64 0, .int .i64 0, .int .i64 0, .int .u64 0, .int .u64 0, .int .u64 0, .int .u64 0] 50)).drew) rfl ⟨w3.heap.size, 0, none⟩ 2 2 (flatI [mk7, mk7]) rfl rfl (fun j u hu => ((Blk.new w3 (flatI [mk7, mk7]) 50).drew.cellAdd 0 j).trans (by rw [Nat.zero_add]; exact hu)) (ins_one _) (by simp only [maxLen]; omega) (by omega) ?_; intro v4 w4 hf4 hs4; obtain ⟨A4, c4, rfl⟩ := hs4.form; have hcap := hs4.rd.cap; have hP4 := ((hP2.alloc (.cells #[.int .i64 (-7), .int .i64 0, .int .i64 0, .int .i64 0, .int .i64 0, .int .i64 0, .int .u64 0, .int .u64 0, .int .u64 0, .int .u64 0, .int .i64 (-7), .int .i64 0, .int .i64 0, .int .i64 0, .int .i64 0, .int .i64 0, .int .u64 0, .int .u64 0, .int .u64 0, .int .u64 0] 50)).drew).frm hf4 (fun h => by omega); have hQ4 := ((hQ2.alloc (.cells #[.int .i64 (-7), .int .i64 0, .int .i64 0, .int .i64 0, .int .i64 0, .int .i64 0, .int .u64 0, .int .u64 0, .int .u64 0, .int .u64 0, .int .i64 (-7), .int .i64 0, .int .i64 0, .int .i64 0, .int .i64 0, .int .i64 0, .int .u64 0, .int .u64 0, .int .u64 0, .int .u64 0] 50)).drew).frm hf4 (fun h => by omega); have hf5 := ((hf3.alloc (.cells #[.int .i64 (-7), .int .i64 0, .int .i64 0, .int .i64 0, .int .i64 0, .int .i64 0, .int .u64 0, .int .u64 0, .int .u64 0, .int .u64 0, .int .i64 (-7), .int .i64 0, .int .i64 0, .int .i64 0, .int .i64 0, .int .i64 0, .int .u64 0, .int .u64 0, .int .u64 0, .int .u64 0] 50)).drew).then hf4 (fun i h hi => by omega); obtain ⟨y0, y1, y2, y3, x0, x1, x2, x3, ly⟩ := blk4 hP4; have hge0 : (0 : Int) ≤ (n : Int) := (by omega); have hge1 : (n : Int) ≤ (c4 : Int) := (by omega))
  all_goals
    have hP5 := hP4.setSame 0 (.slice A4 n c4)
    have hQ5 := hQ4.setOther bp 0 (.slice A4 n c4) (by omega)
    have hs5 := hs4.set bp 0 (.slice A4 n c4) (by have := HBM.out; rintro (h | h); omega; simp at h; omega)
    have hf6 := hf5.set bp 0 (.slice A4 n c4) (fun h => by have := HBM.out; omega)
    clear y0 y1 y2 y3 x0 x1 x2 x3 ly hP4 hQ4 hs4 hf5 p0 p1 p2 p3 g0 g1 g2 g3 lp m0 m1 m2 m3 m4 m5 m6 m7 m8 m9
    generalize w4.setCell ⟨bp, 0, none⟩ (.slice A4 n c4) = w5 at *
    obtain ⟨y0, y1, y2, y3, x0, x1, x2, x3, ly⟩ := blk4 hP5
    obtain ⟨r0, r1, r2, r3, k0, k1, k2, k3, lr⟩ := blk4 hQ5
    try simp only [List.set_cons_zero] at y0 y1 y2 y3
    go_wp2_with fail
    have hQ6 := (((hQ5.setSame 0 (.slice A4 n c4)).setSame 1 (.int .i64 gr)).setSame 2 (.int .i64 co)).setSame 3 (.bool fo)
    refine bodyPost_ret (results_one rfl (RV.cell rfl hQ6 Try.underlying24 rfl (by kernel_rfl))) rfl ?_
    have hnbq : ∀ k, ((bp ≤ k ∧ ¬ (k = bp ∨ k = bq)) → ¬ (k = bq)) := fun k h => by omega
    refine ⟨A4, c4, rfl, ?_, ?_⟩
    · have hfq : Frm (fun k => k = bq) w5 ((((w5.setCell ⟨bq, 0, none⟩ (.slice A4 n c4)).setCell ⟨bq, 1, none⟩ (.int .i64 gr)).setCell ⟨bq, 2, none⟩ (.int .i64 co)).setCell ⟨bq, 3, none⟩ (.bool fo)) := ((((Frm.refl (fun k => k = bq) w5).set bq 0 _ (fun _ => rfl)).set bq 1 _ (fun _ => rfl)).set bq 2 _ (fun _ => rfl)).set bq 3 _ (fun _ => rfl)
      have he : flatI (ins ++ [mk7, mk7]) = flatI ins ++ flatI [mk7, mk7] := List.flatMap_append
      rw [he]
      refine (hs5.frm hfq (fun k hk e => ?_)).mono (fun k hk _ => ?_)
      · have := HBM.out; rcases hk with h | h
        · omega
        · simp at h; omega
      · have := HBM.out; rcases hk with h | h
        · omega
        · simp at h; omega
    · exact (((hf6.set bq 0 _ (fun h => by omega)).set bq 1 _ (fun h => by omega)).set bq 2 _ (fun h => by omega)).set bq 3 _ (fun h => by omega)

set_option maxHeartbeats 4000000 in
set_option maxRecDepth 100000 in
theorem backC (A B : Option Addr) (n cp cq : Nat) (gr co : Int) (fo : Bool) (ins : List Ins) (G F : Nat → Prop) (w : World) (hrd : Rd w G 10 A n cp (flatI ins)) (hs : Sl w F 50 10 (.slice B (n + 2) cq) (n + 2) (flatI (ins ++ [mk7, mk7]))) (hn : n ≤ 1048576) :
    Calls Try.prog 12 #[.agg #[.slice B n cq, .int .i64 gr, .int .i64 co, .bool fo], .agg #[.slice A n cp, .int .i64 gr, .int .i64 co, .bool fo]] w fun e w' => e = .returned (.bool true) ∧ Frm (fun _ => False) w w' := by
  have hil : ins.length = n := by have := hrd.len; rw [flatI_len] at this; omega
  have hf0 : Frm (fun _ => False) w ((w.alloc (.cells #[.slice B n cq, .int .i64 gr, .int .i64 co, .bool fo] 24)).alloc (.cells #[.slice A n cp, .int .i64 gr, .int .i64 co, .bool fo] 24)) := ((Frm.refl _ w).alloc _).alloc _
  have hP := (Blk.new w [.slice B n cq, .int .i64 gr, .int .i64 co, .bool fo] 24).alloc (.cells #[.slice A n cp, .int .i64 gr, .int .i64 co, .bool fo] 24)
  have hQ := Blk.new (w.alloc (.cells #[.slice B n cq, .int .i64 gr, .int .i64 co, .bool fo] 24)) [.slice A n cp, .int .i64 gr, .int .i64 co, .bool fo] 24
  rw [World.size_alloc] at hQ
  have hrq : Rd w F 10 B n cq (flatI ins) := by
    have := hs.rd.upto (k := n) (by omega)
    have he : (flatI (ins ++ [mk7, mk7])).take (n * 10) = flatI ins := by
      have : flatI (ins ++ [mk7, mk7]) = flatI ins ++ flatI [mk7, mk7] := List.flatMap_append
      rw [this, List.take_append_of_le_length (by rw [flatI_len]; omega), List.take_of_length_le (by rw [flatI_len]; omega)]
    rwa [he] at this
  have hcq := hs.rd.cap
  go_enter Try.func12, Try.ntmps12
  go_upto_region 1 with fail
  generalize (w.alloc (.cells #[.slice B n cq, .int .i64 gr, .int .i64 co, .bool fo] 24)).alloc (.cells #[.slice A n cp, .int .i64 gr, .int .i64 co, .bool fo] 24) = w1 at *
  generalize hbq : w.heap.size + 1 = bq at *
  generalize w.heap.size = bp at *
  clear hbq
  obtain ⟨p0, p1, p2, p3, g0, g1, g2, g3, lp⟩ := blk4 hP
  obtain ⟨r0, r1, r2, r3, k0, k1, k2, k3, lq⟩ := blk4 hQ
  have HS := Lib.hid (sameC B A n cq cp gr co fo ins F G w1 (hrq.frm hf0 (fun _ _ h => h)) (hrd.frm hf0 (fun _ _ h => h)) (by omega))
  go_wp2_with fail
  refine HS.out.mono ?_
  rintro e w2 ⟨rfl, hf2⟩
  have hff := hf0.trans hf2
  clear p0 p1 p2 p3 g0 g1 g2 g3 lp r0 r1 r2 r3 k0 k1 k2 k3 lq
  obtain ⟨p0, p1, p2, p3, g0, g1, g2, g3, lp⟩ := blk4 (hP.frm hf2 (fun h => h))
  obtain ⟨r0, r1, r2, r3, k0, k1, k2, k3, lq⟩ := blk4 (hQ.frm hf2 (fun h => h))
  have hr2 := hs.rd.frm hff (fun _ _ h => h)
  have hget : ∀ m, (m = n ∨ m = n + 1) → (ins ++ [mk7, mk7])[m]? = some mk7 := by
    rintro m (rfl | rfl)
    · rw [List.getElem?_append_right (by omega), hil, Nat.sub_self]; rfl
    · rw [List.getElem?_append_right (by omega), hil, show n + 1 - n = 1 by omega]; rfl
  obtain ⟨b, off, rfl, hb, hc1⟩ := hr2.ins n mk7 (hget n (.inl rfl))
  obtain ⟨b', off', he, hb', hc2⟩ := hr2.ins (n + 1) mk7 (hget (n + 1) (.inr rfl))
  cases he
  have e0 := hc1 0 _ rfl
  have f0 := hc2 0 _ rfl
  rw [Nat.add_zero] at e0 f0
  simp only [mk7] at e0 f0
  have hw1 : IntKind.i64.wrap ((n : Int) + 2) = (n : Int) + 2 := IntWalk.i64_in _ (by omega)
  have hw2 : IntKind.i64.wrap ((n : Int) + 1) = (n : Int) + 1 := IntWalk.i64_in _ (by omega)
  have hge0 : (0 : Int) ≤ (n : Int) + 2 := by omega
  have hge1 : (n : Int) + 2 ≤ (cq : Int) := by omega
  clear hc1 hc2 hget HS hr2 hrq hs hrd hil
  go_wp2_with fail
  go_ret
  exact ⟨rfl, hff⟩
end Go.Proofs.Ytamiliccnbkipaa
