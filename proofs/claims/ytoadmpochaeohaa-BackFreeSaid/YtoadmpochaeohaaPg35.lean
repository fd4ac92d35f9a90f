/-
  'begin', walked.
-/
import Derived.Test.YtoadmpochaeohaaPg16
import Derived.Test.YtoadmpochaeohaaPg34
section
set_option linter.unusedVariables false
set_option linter.unusedSimpArgs false
set_option maxRecDepth 100000
namespace Go.Proofs.Ytoadmpochaeohaa
open Go.RowKit

/-- What a search is refused for: 0: nothing. -/
def beginE (l : List Ins) (gr co : Int) (line : ByteArray) (at_ : Int) : Int :=
  if rightE l gr co ≠ 0 then rightE l gr co else if freeB l = false then 51 else if at_ < 0 ∨ (line.size : Int) < at_ then 1 else 0

set_option maxHeartbeats 4000000 in
set_option maxRecDepth 100000 in
theorem beginC (A : Option Addr) (n cp : Nat) (gr co : Int) (fo : Bool) (ins : List Ins) (G : Nat → Prop) (line : ByteArray) (at_ : Int) (w : World) (hrd : Rd w G 10 A n cp (flatI ins)) :
    Calls Try.prog 42 #[.agg #[.slice A n cp, .int .i64 gr, .int .i64 co, .bool fo], .string line, .int .i64 at_] w fun e w' =>
      (beginE ins gr co line at_ ≠ 0 ∧ e = .returned (.tuple #[.pointer none, .int .i64 (beginE ins gr co line at_)]) ∧ Frm (fun _ => False) w w') ∨
      (beginE ins gr co line at_ = 0 ∧ ∃ x col bn bx vf vt, e = .returned (.tuple #[.pointer (some ⟨x, 0, none⟩), .int .i64 0]) ∧
        PL w' (fun k => w.heap.size ≤ k) col x A n cp gr co fo line bn bx vf vt (.slice none 0 0) 0 [] [] (List.replicate n 0) (List.replicate n 0) [] ∧ Frm (fun _ => False) w w') := by
  have hil : ins.length = n := by have := hrd.len; rw [flatI_len] at this; omega
  have hf0 : Frm (fun _ => False) w (w.alloc (.cells #[.slice A n cp, .int .i64 gr, .int .i64 co, .bool fo] 24)) := (Frm.refl _ w).alloc _
  have hP := Blk.new w [.slice A n cp, .int .i64 gr, .int .i64 co, .bool fo] 24
  have p0 := hP.cell 0
  have p1 := hP.cell 1
  have p2 := hP.cell 2
  have p3 := hP.cell 3
  simp only [List.getElem?_cons_zero, List.getElem?_cons_succ] at p0 p1 p2 p3
  have hlp := hP.lt
  go_enter Try.func42, Try.ntmps42
  go_upto_region 1 with fail
  generalize w.alloc (.cells #[.slice A n cp, .int .i64 gr, .int .i64 co, .bool fo] 24) = w1 at *
  have HRI := Lib.hid (rightC A n cp gr co fo ins G w1 (hrd.frm hf0 (fun _ _ h => h)))
  go_wp2_with fail
  refine HRI.out.mono ?_
  rintro e w2 ⟨⟨kk, rfl⟩, hf2⟩
  have hfF : Frm (fun _ => False) w w2 := hf0.trans hf2
  have hP2 := hP.frm hf2 (fun h => h)
  clear p0 p1 p2 p3 hlp
  have p0 := hP2.cell 0
  have p1 := hP2.cell 1
  have p2 := hP2.cell 2
  have p3 := hP2.cell 3
  simp only [List.getElem?_cons_zero, List.getElem?_cons_succ] at p0 p1 p2 p3
  have hlp := hP2.lt
  by_cases h1 : rightE ins gr co = 0
  · rw [h1]
    have hn4 : n ≤ 40000 := by
      rw [← hil]
      unfold rightE at h1
      split at h1
      · cases h1
      · omega
    have HFR := Lib.hid (freeC A n cp gr co fo ins G w2 (hrd.frm hfF (fun _ _ h => h)) hn4)
    go_wp2_with fail
    refine HFR.out.mono ?_
    rintro e w3 ⟨rfl, hf3⟩
    have hfG : Frm (fun _ => False) w w3 := hfF.trans hf3
    have hP3 := hP2.frm hf3 (fun h => h)
    clear p0 p1 p2 p3 hlp
    have p0 := hP3.cell 0
    have p1 := hP3.cell 1
    have p2 := hP3.cell 2
    have p3 := hP3.cell 3
    simp only [List.getElem?_cons_zero, List.getElem?_cons_succ] at p0 p1 p2 p3
    have hlp := hP3.lt
    cases hfb : freeB ins with
    | false =>
      have hb : beginE ins gr co line at_ = 51 := by rw [beginE, if_neg (by simpa using h1), if_pos hfb]
      have HB := Lib.hid hb
      clear hb hfb h1
      go_wp2_with fail
      go_ret2
      exact .inl ⟨by rw [HB.out]; decide, by rw [HB.out]; rfl, hfG⟩
    | true =>
      by_cases h2 : at_ < 0
      · have hb : beginE ins gr co line at_ = 1 := by rw [beginE, if_neg (by simpa using h1), if_neg (by rw [hfb]; simp), if_pos (.inl h2)]
        have HB := Lib.hid hb
        have t2 : decide (at_ < 0) = true := decide_eq_true h2
        clear hb hfb h1
        go_wp2_with fail
        go_ret2
        exact .inl ⟨by rw [HB.out]; decide, by rw [HB.out]; rfl, hfG⟩
      · have t2 : decide (at_ < 0) = false := decide_eq_false h2
        by_cases h3 : (line.size : Int) < at_
        · have hb : beginE ins gr co line at_ = 1 := by rw [beginE, if_neg (by simpa using h1), if_neg (by rw [hfb]; simp), if_pos (.inr h3)]
          have HB := Lib.hid hb
          have t3 : decide ((line.size : Int) < at_) = true := decide_eq_true h3
          clear hb hfb h1
          go_wp2_with fail
          go_ret2
          exact .inl ⟨by rw [HB.out]; decide, by rw [HB.out]; rfl, hfG⟩
        · have t3 : decide ((line.size : Int) < at_) = false := decide_eq_false h3
          have hb : beginE ins gr co line at_ = 0 := by rw [beginE, if_neg (by simpa using h1), if_neg (by rw [hfb]; simp), if_neg (by omega)]
          have HB := Lib.hid hb
          clear hb hfb h1
          go_upto_region 9 with fail
          have hX := Blk.new w3 [.slice A n cp, .int .i64 gr, .int .i64 co, .bool fo, .string line, .pointer none, .pointer none, .slice none 0 0, .slice none 0 0, .slice none 0 0, .int .i64 0] 99
          have hP4 := hP3.alloc (.cells #[.slice A n cp, .int .i64 gr, .int .i64 co, .bool fo, .string line, .pointer none, .pointer none, .slice none 0 0, .slice none 0 0, .slice none 0 0, .int .i64 0] 99)
          have hf4 := hfG.alloc (.cells #[.slice A n cp, .int .i64 gr, .int .i64 co, .bool fo, .string line, .pointer none, .pointer none, .slice none 0 0, .slice none 0 0, .slice none 0 0, .int .i64 0] 99)
          have hx3 : w.heap.size ≤ w3.heap.size := hfG.size
          have hpx : w.heap.size ≠ w3.heap.size := by omega
          generalize w3.alloc (.cells #[.slice A n cp, .int .i64 gr, .int .i64 co, .bool fo, .string line, .pointer none, .pointer none, .slice none 0 0, .slice none 0 0, .slice none 0 0, .int .i64 0] 99) = w4 at *
          generalize w3.heap.size = x at *
          generalize hbp : w.heap.size = bp at *
          clear p0 p1 p2 p3
          have p0 := hP4.cell 0
          simp only [List.getElem?_cons_zero] at p0
          have x5 := hX.frozen 5
          have x5' := hX.cell 5
          simp only [List.getElem?_cons_zero, List.getElem?_cons_succ] at x5'
          have hxl := hX.lt
          go_wp2_with fail
          refine (newM n w4 (by omega)).mono ?_
          rintro e w5 ⟨bn, rfl, hm5, hf5⟩
          have hX5 := hX.frm hf5 (fun h => h)
          have hP5 := hP4.frm hf5 (fun h => h)
          have hz5 := hf5.size
          clear p0 x5 x5'
          have p0 := hP5.cell 0
          have x5 := hX5.frozen 5
          have x5' := hX5.cell 5
          simp only [List.getElem?_cons_zero, List.getElem?_cons_succ] at p0 x5'
          have hxl5 := hX5.lt
          have hX6 := hX5.setSame 5 (.pointer (some ⟨bn, 0, none⟩))
          have hP6 := hP5.setOther x 5 (.pointer (some ⟨bn, 0, none⟩)) hpx
          have f6 : Frm (fun k => k = x) w5 (w5.setCell ⟨x, 5, none⟩ (.pointer (some ⟨bn, 0, none⟩))) := (Frm.refl (fun k => k = x) w5).set x 5 _ (fun _ => rfl)
          have hm6 := hm5.low.frm f6 (fun k hk e => by omega)
          have hf6 : Frm (fun _ => False) w (w5.setCell ⟨x, 5, none⟩ (.pointer (some ⟨bn, 0, none⟩))) := (hf4.trans hf5).then f6 (fun i e hi => by omega)
          go_upto_region 10 with fail
          clear p0 x5 x5' hX5 hP5 f6
          have hz6 : (w5.setCell ⟨x, 5, none⟩ (.pointer (some ⟨bn, 0, none⟩))).heap.size = w5.heap.size := by simp
          generalize w5.setCell ⟨x, 5, none⟩ (.pointer (some ⟨bn, 0, none⟩)) = w6 at *
          have p0 := hP6.cell 0
          simp only [List.getElem?_cons_zero] at p0
          have hxl6 := hX6.lt
          go_wp2_with fail
          refine (newM n w6 (by omega)).mono ?_
          rintro e w7 ⟨bx, rfl, hm7, hf7⟩
          have hX7 := hX6.frm hf7 (fun h => h)
          have hP7 := hP6.frm hf7 (fun h => h)
          have hn7 := hm6.frm hf7 (fun _ _ h => h)
          have hz7 := hf7.size
          clear p0
          have p0 := hP7.cell 0
          have x5 := hX7.frozen 6
          have x5' := hX7.cell 6
          simp only [List.getElem?_cons_zero, List.getElem?_cons_succ, List.set_cons_succ, List.set_cons_zero] at p0 x5'
          have hxl7 := hX7.lt
          have hX8 := hX7.setSame 6 (.pointer (some ⟨bx, 0, none⟩))
          have hP8 := hP7.setOther x 6 (.pointer (some ⟨bx, 0, none⟩)) hpx
          have f8 : Frm (fun k => k = x) w7 (w7.setCell ⟨x, 6, none⟩ (.pointer (some ⟨bx, 0, none⟩))) := (Frm.refl (fun k => k = x) w7).set x 6 _ (fun _ => rfl)
          have hn8 := hn7.frm f8 (fun k hk e => by omega)
          have hm8 := hm7.low.frm f8 (fun k hk e => by omega)
          have hf8 : Frm (fun _ => False) w (w7.setCell ⟨x, 6, none⟩ (.pointer (some ⟨bx, 0, none⟩))) := (hf6.trans hf7).then f8 (fun i e hi => by omega)
          go_upto_region 11 with fail
          clear p0 x5 x5' hX7 hP7 f8
          have hz8 : (w7.setCell ⟨x, 6, none⟩ (.pointer (some ⟨bx, 0, none⟩))).heap.size = w7.heap.size := by simp
          generalize w7.setCell ⟨x, 6, none⟩ (.pointer (some ⟨bx, 0, none⟩)) = w8 at *
          have p0 := hP8.cell 0
          simp only [List.getElem?_cons_zero] at p0
          have hxl8 := hX8.lt
          go_wp2_with (with_reducible refine stop_at 58 rfl ?_)
          unfold Stop
          refine op_make rfl _ _ _ rfl 3 (.int .i64 0) 8 Try.underlying73 infoInt rfl n rfl rfl n rfl (by omega) (by omega) ?_
          intro b9 w9 hn9 hB9
          have hf9 := hn9.frm
          have HB9 := Lib.hid hn9.eq
          have hb9 := hn9.le
          have hb9l := hn9.lt
          have hs9 := hn9.size
          have hX9 := hX8.frm hf9 (fun h => h)
          have hP9 := hP8.frm hf9 (fun h => h)
          have hn9' := hn8.frm hf9 (fun _ _ h => h)
          have hm9 := hm8.frm hf9 (fun _ _ h => h)
          clear p0
          have x5 := hX9.frozen 7
          have x5' := hX9.cell 7
          simp only [List.getElem?_cons_zero, List.getElem?_cons_succ, List.set_cons_succ, List.set_cons_zero] at x5'
          have hX10 := hX9.setSame 7 (.slice (some ⟨b9, 0, none⟩) n n)
          have hP10 := hP9.setOther x 7 (.slice (some ⟨b9, 0, none⟩) n n) hpx
          have hB10 := hB9.setOther x 7 (.slice (some ⟨b9, 0, none⟩) n n) (by omega)
          have f10 : Frm (fun k => k = x) w9 (w9.setCell ⟨x, 7, none⟩ (.slice (some ⟨b9, 0, none⟩) n n)) := (Frm.refl (fun k => k = x) w9).set x 7 _ (fun _ => rfl)
          have hn10 := hn9'.frm f10 (fun k hk e => by omega)
          have hm10 := hm9.frm f10 (fun k hk e => by omega)
          have hf10 : Frm (fun _ => False) w (w9.setCell ⟨x, 7, none⟩ (.slice (some ⟨b9, 0, none⟩) n n)) := (hf8.trans hf9).then f10 (fun i e hi => by omega)
          go_upto_region 12 with fail
          clear x5 x5' hX9 hP9 f10
          have hz10 : (w9.setCell ⟨x, 7, none⟩ (.slice (some ⟨b9, 0, none⟩) n n)).heap.size = w9.heap.size := by simp
          generalize w9.setCell ⟨x, 7, none⟩ (.slice (some ⟨b9, 0, none⟩) n n) = w10 at *
          have p0 := hP10.cell 0
          simp only [List.getElem?_cons_zero] at p0
          have hxl10 := hX10.lt
          go_wp2_with (with_reducible refine stop_at 65 rfl ?_)
          unfold Stop
          refine op_make rfl _ _ _ rfl 3 (.int .i64 0) 8 Try.underlying73 infoInt rfl n rfl rfl n rfl (by omega) (by omega) ?_
          intro b11 w11 hn11 hB11
          have hf11 := hn11.frm
          have HB11 := Lib.hid hn11.eq
          have hb11 := hn11.le
          have hb11l := hn11.lt
          have hs11 := hn11.size
          have hX11 := hX10.frm hf11 (fun h => h)
          have hB11' := hB10.frm hf11 (fun h => h)
          have hn11' := hn10.frm hf11 (fun _ _ h => h)
          have hm11 := hm10.frm hf11 (fun _ _ h => h)
          clear p0
          have x5 := hX11.frozen 8
          have x5' := hX11.cell 8
          simp only [List.getElem?_cons_zero, List.getElem?_cons_succ, List.set_cons_succ, List.set_cons_zero] at x5'
          have hX12 := hX11.setSame 8 (.slice (some ⟨b11, 0, none⟩) n n)
          have hB12 := hB11.setOther x 8 (.slice (some ⟨b11, 0, none⟩) n n) (by omega)
          have hB12' := hB11'.setOther x 8 (.slice (some ⟨b11, 0, none⟩) n n) (by omega)
          have f12 : Frm (fun k => k = x) w11 (w11.setCell ⟨x, 8, none⟩ (.slice (some ⟨b11, 0, none⟩) n n)) := (Frm.refl (fun k => k = x) w11).set x 8 _ (fun _ => rfl)
          have hn12 := hn11'.frm f12 (fun k hk e => by omega)
          have hm12 := hm11.frm f12 (fun k hk e => by omega)
          have hf12 : Frm (fun _ => False) w (w11.setCell ⟨x, 8, none⟩ (.slice (some ⟨b11, 0, none⟩) n n)) := (hf10.trans hf11).then f12 (fun i e hi => by omega)
          go_wp2_with fail
          go_ret2
          refine .inr ⟨HB.out, x, fun k => if k < w4.heap.size then 0 else if k < w5.heap.size then 1 else if k < w7.heap.size then 2 else if k = b9 then 3 else 4, bn, bx, .slice (some ⟨b9, 0, none⟩) n n, .slice (some ⟨b11, 0, none⟩) n n, rfl, ?_, hf12⟩
          have e0 : (List.replicate n (0 : Int)).map I64 = List.replicate n (.int .i64 0) := by rw [List.map_replicate]; rfl
          refine ⟨by simpa using hX12, ⟨by omega, by rw [if_pos hxl]⟩, hn12.mono (fun k hk _ => ⟨by omega, by rw [if_neg (by omega), if_pos hk.2]⟩), hm12.mono (fun k hk _ => ⟨by omega, by rw [if_neg (by omega), if_neg (by omega), if_pos hk.2]⟩), ?_, ?_, Sl.nil, by simp, by simp⟩
          · rw [e0]
            exact .at_ (rest := []) ⟨by omega, by rw [if_neg (by omega), if_neg (by omega), if_neg (by omega), if_pos rfl]⟩ (by simpa using hB12') (by simp) (by simp) (Nat.le_refl _) (by simp only [maxLen]; omega)
          · rw [e0]
            exact .at_ (rest := []) ⟨by omega, by rw [if_neg (by omega), if_neg (by omega), if_neg (by omega), if_neg (by omega)]⟩ (by simpa using hB12) (by simp) (by simp) (Nat.le_refl _) (by simp only [maxLen]; omega)
  · have hb : beginE ins gr co line at_ = rightE ins gr co := by rw [beginE, if_pos h1]
    have HB := Lib.hid hb
    have H1 := Lib.hid h1
    have t1 : (rightE ins gr co != 0) = true := by simpa using h1
    clear hb h1
    go_wp2_with fail
    go_ret2
    exact .inl ⟨by rw [HB.out]; exact H1.out, by rw [HB.out]; rfl, hfF⟩
end Go.Proofs.Ytoadmpochaeohaa
end
