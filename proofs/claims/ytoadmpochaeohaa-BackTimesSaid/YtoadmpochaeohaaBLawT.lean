/-
  Layer 20: BackTimes' law, walked.
-/
import Derived.Test.YtoadmpochaeohaaBRow
set_option linter.unusedVariables false
set_option linter.unusedSimpArgs false
set_option maxRecDepth 100000
namespace Go.Proofs.Ytoadmpochaeohaa
open Go.RowKit

theorem twoA (w : World) (x y : List Value) (a b : TypeId) : Blk ((w.alloc (.cells x.toArray a)).alloc (.cells y.toArray b)) w.heap.size x a ∧ Blk ((w.alloc (.cells x.toArray a)).alloc (.cells y.toArray b)) (w.heap.size + 1) y b ∧ Frm (fun _ => False) w ((w.alloc (.cells x.toArray a)).alloc (.cells y.toArray b)) := by
  have e1 : (w.alloc (.cells x.toArray a)).heap.size = w.heap.size + 1 := by unfold World.alloc; exact Array.size_push _
  refine ⟨(Blk.new w x a).alloc _, ?_, ((Frm.refl _ _).alloc _).alloc _⟩
  rw [← e1]; exact Blk.new _ y b
set_option maxHeartbeats 16000000 in
theorem lawTimesB (lo0 hi0 k0 : Int) (pl : Bool) (w : World) (hl1 : -9223372036854775808 ≤ lo0 ∧ lo0 ≤ 9223372036854775807) (hh1 : -9223372036854775808 ≤ hi0 ∧ hi0 ≤ 9223372036854775807) (hk1 : -9223372036854775808 ≤ k0 ∧ k0 ≤ 9223372036854775807) :
    Calls Try.prog 6 #[.int .i64 lo0, .int .i64 hi0, .int .i64 k0, .bool pl] w fun e w' => e = .returned (.bool true) ∧ Frm (fun _ => False) w w' := by
  have HK := Lib.hid (knownC w)
  have HP1 := Lib.hid (fun w => pick_calls lo0 21 w hl1.1 hl1.2 (by omega) (by omega))
  have HP2 := Lib.hid (fun w => pick_calls hi0 41 w hh1.1 hh1.2 (by omega) (by omega))
  have HP3 := Lib.hid (fun w => pick_calls k0 61 w hk1.1 hk1.2 (by omega) (by omega))
  have hlo := pickN_lt lo0 21 (by omega)
  have hhi := pickN_lt hi0 41 (by omega)
  have hk := pickN_lt k0 61 (by omega)
  generalize pickN lo0 21 = lo at *
  generalize pickN hi0 41 = hi at *
  generalize pickN k0 61 = k at *
  obtain ⟨mx, hmx⟩ : ∃ mx : Int, (if (hi : Int) < lo then -1 else (hi : Int)) = mx := ⟨_, rfl⟩
  have hmb : mx = -1 ∨ ((lo : Int) ≤ mx ∧ mx ≤ 255) := by rw [← hmx]; split <;> omega
  have hright := times_right lo mx (by omega) hmb
  have HR := Lib.hid hright
  have HSM := Lib.hid smallC
  have HMX := Lib.hid (⟨hmx, hmb⟩ : _ ∧ _)
  clear hmx hmb hright
  go_enter Try.func6, Try.ntmps6
  go_wp2_with fail
  refine HK.out.mono ?_
  rintro e w1 ⟨rfl, hf1⟩
  go_wp2_with fail
  refine (HP1.out w1).mono ?_
  rintro e w1' ⟨rfl, rfl⟩
  go_wp2_with fail
  refine (HP2.out w1).mono ?_
  rintro e w1' ⟨rfl, rfl⟩
  go_wp2_with fail
  refine (HP3.out w1).mono ?_
  rintro e w1' ⟨rfl, rfl⟩
  go_upto_region 6 with fail
  have hI := Blk.new w1 [.int .i64 10, .int .i64 2, .int .i64 4, .int .i64 0, .int .i64 lo, .int .i64 hi, .int .u64 0, .int .u64 0, .int .u64 0, .int .u64 0] 39
  have hf2 := hf1.alloc (.cells #[.int .i64 10, .int .i64 2, .int .i64 4, .int .i64 0, .int .i64 lo, .int .i64 hi, .int .u64 0, .int .u64 0, .int .u64 0, .int .u64 0] 39)
  have hz1 := hf1.size
  generalize w1.alloc (.cells #[.int .i64 10, .int .i64 2, .int .i64 4, .int .i64 0, .int .i64 lo, .int .i64 hi, .int .u64 0, .int .u64 0, .int .u64 0, .int .u64 0] 39) = w2 at *
  obtain ⟨bI, hbI⟩ : ∃ bI, w1.heap.size = bI := ⟨_, rfl⟩
  simp only [hbI] at hI hz1 ⊢
  clear hbI hf1
  have i5 := hI.cell 5
  have g5 := hI.frozen 5
  simp only [List.getElem?_cons_zero, List.getElem?_cons_succ] at i5
  have li := hI.lt
  have hsetw : Blk (w2.setCell ⟨bI, 5, none⟩ (.int .i64 (-1))) bI [.int .i64 10, .int .i64 2, .int .i64 4, .int .i64 0, .int .i64 lo, .int .i64 (-1), .int .u64 0, .int .u64 0, .int .u64 0, .int .u64 0] 39 := hI.setSame 5 _
  obtain ⟨bb, hbb⟩ : ∃ bb, decide (hi < lo) = bb := ⟨_, rfl⟩
  have hbi : decide ((hi : Int) < (lo : Int)) = bb := by rw [← hbb]; simp
  go_upto_if 30 with (fail)
  go_cut [] from 31 to 31 (fun wx => Blk wx bI [.int .i64 10, .int .i64 2, .int .i64 4, .int .i64 0, .int .i64 lo, .int .i64 mx, .int .u64 0, .int .u64 0, .int .u64 0, .int .u64 0] 39 ∧ Frm (fun _ => False) w wx)
  case first =>
    have hmx := HMX.out.1
    by_cases hlt : (hi : Int) < lo
    · rw [if_pos hlt] at hmx
      obtain rfl : bb = true := by rw [← hbi]; exact decide_eq_true hlt
      subst hmx
      go_wp2_with fail
      go_meet
      exact ⟨hsetw, hf2.set bI 5 _ (fun h => by omega)⟩
    · rw [if_neg hlt] at hmx
      obtain rfl : bb = false := by rw [← hbi]; exact decide_eq_false hlt
      subst hmx
      go_wp2_with fail
      go_meet
      exact ⟨hI, hf2⟩
  case rest =>
    obtain ⟨hI3, hf3⟩ := hcut
    obtain ⟨w3, hw3⟩ : ∃ w3, w3 = wc := ⟨_, rfl⟩
    subst hw3
    clear hI hf2 hsetw i5 g5 li
    have j0 := hI3.cell 0
    have j1 := hI3.cell 1
    have j2 := hI3.cell 2
    have j3 := hI3.cell 3
    have j4 := hI3.cell 4
    have j5 := hI3.cell 5
    have j6 := hI3.cell 6
    have j7 := hI3.cell 7
    have j8 := hI3.cell 8
    have j9 := hI3.cell 9
    simp only [List.getElem?_cons_zero, List.getElem?_cons_succ] at j0 j1 j2 j3 j4 j5 j6 j7 j8 j9
    have li := hI3.lt
    have n3 : bI ≠ w3.heap.size := by omega
    have kJ := hI3.drew
    go_upto_region 8 with fail
    go_cut [11] from 32 to 39 (fun v wx => ∃ b8 A, v = .pointer (some ⟨b8, 0, none⟩) ∧ Blk wx b8 [.slice A 5 5, .int .i64 0, .int .i64 1, .bool false] 24 ∧ Rd wx (fun _ => True) 10 A 5 5 (flatI (timesL lo mx)) ∧ Frm (fun _ => False) w wx)
    case first =>
      go_wp2_with fail
      go_region_law (first
        | (refine step_call (f := 23) rfl rfl Try.func23 (by kernel_rfl) rfl _ (by simp only [List.map_toArray, List.map_cons, List.map_nil]; rfl) ?_; refine (HSM.out _).mono ?_; rintro e w4 ⟨rfl, hf4⟩; refine ⟨_, rfl, ?_⟩; have kI := hI3.drew.frm hf4 (fun h => h); have kl := kI.lt; have k0 := kI.cell 0; have k1 := kI.cell 1; have k2 := kI.cell 2; have k3 := kI.cell 3; have k4 := kI.cell 4; have k5 := kI.cell 5; have k6 := kI.cell 6; have k7 := kI.cell 7; have k8 := kI.cell 8; have k9 := kI.cell 9; simp only [List.getElem?_cons_zero, List.getElem?_cons_succ] at k0 k1 k2 k3 k4 k5 k6 k7 k8 k9; have n4 : bI ≠ w4.heap.size := (by omega); have n5 : bI ≠ w4.heap.size + 1 := (by omega))
        | (refine step_call (f := 23) rfl rfl Try.func23 (by kernel_rfl) rfl _ (by simp only [List.map_toArray, List.map_cons, List.map_nil]; rfl) ?_; refine (HSM.out _).mono ?_; rintro e w4 ⟨rfl, hf4⟩; refine ⟨_, rfl, ?_⟩; have kI := (hI3.alloc (.cells #[.slice none 0 0, .int .i64 0, .int .i64 0, .bool false] 24)).drew.frm hf4 (fun h => h); have kl := kI.lt; have k0 := kI.cell 0; have k1 := kI.cell 1; have k2 := kI.cell 2; have k3 := kI.cell 3; have k4 := kI.cell 4; have k5 := kI.cell 5; have k6 := kI.cell 6; have k7 := kI.cell 7; have k8 := kI.cell 8; have k9 := kI.cell 9; simp only [List.getElem?_cons_zero, List.getElem?_cons_succ] at k0 k1 k2 k3 k4 k5 k6 k7 k8 k9; have n4 : bI ≠ w4.heap.size := (by omega); have n5 : bI ≠ w4.heap.size + 1 := (by omega); have kN := ((Blk.new w3 [.slice none 0 0, .int .i64 0, .int .i64 0, .bool false] 24).drew).frm hf4 (fun h => h); obtain ⟨x0, x1, x2, x3, y0, y1, y2, y3, lx⟩ := blk4 kN; have n6 : w3.heap.size ≠ w4.heap.size := (by omega); have n7 : w4.heap.size ≠ w3.heap.size := (by omega)))
      all_goals
        go_wp2_with fail
        go_meet
        first
          | exact ⟨w4.heap.size + 1, some ⟨w4.heap.size, 0, none⟩, rfl, (twoA w4 (flatI (timesL lo mx)) [.slice (some ⟨w4.heap.size, 0, none⟩) 5 5, .int .i64 0, .int .i64 1, .bool false] 39 24).2.1, (twoA w4 (flatI (timesL lo mx)) [.slice (some ⟨w4.heap.size, 0, none⟩) 5 5, .int .i64 0, .int .i64 1, .bool false] 39 24).1.rdA trivial rfl, (hf3.drew.trans hf4).trans (twoA w4 (flatI (timesL lo mx)) [.slice (some ⟨w4.heap.size, 0, none⟩) 5 5, .int .i64 0, .int .i64 1, .bool false] 39 24).2.2⟩
          | exact ⟨w4.heap.size, some ⟨w4.heap.size + 1, 0, none⟩, rfl, (twoA w4 [.slice (some ⟨w4.heap.size + 1, 0, none⟩) 5 5, .int .i64 0, .int .i64 1, .bool false] (flatI (timesL lo mx)) 24 39).1, (twoA w4 [.slice (some ⟨w4.heap.size + 1, 0, none⟩) 5 5, .int .i64 0, .int .i64 1, .bool false] (flatI (timesL lo mx)) 24 39).2.1.rdA trivial rfl, (hf3.drew.trans hf4).trans (twoA w4 [.slice (some ⟨w4.heap.size + 1, 0, none⟩) 5 5, .int .i64 0, .int .i64 1, .bool false] (flatI (timesL lo mx)) 24 39).2.2⟩
          | exact ⟨w3.heap.size, some ⟨w4.heap.size, 0, none⟩, rfl, ((((kN.setSame 0 _).setSame 1 _).setSame 2 _).setSame 3 _).alloc _, (Blk.newAt (n := w4.heap.size) (flatI (timesL lo mx)) 39 (by simp)).rdA trivial rfl, ((((((hf3.alloc _).drew.trans hf4).set _ 0 _ (fun h => by have := hf3.size; omega)).set _ 1 _ (fun h => by have := hf3.size; omega)).set _ 2 _ (fun h => by have := hf3.size; omega)).set _ 3 _ (fun h => by have := hf3.size; omega)).alloc _⟩
    case rest =>
      obtain ⟨b8, A, rfl, hP, hRd, hf5⟩ := hcut
      obtain ⟨w5, hw5⟩ : ∃ w5, w5 = wc := ⟨_, rfl⟩
      subst hw5
      have HN := Lib.hid (newMk A 5 5 0 1 false pl (timesL lo mx) _ w5 0 hRd HR.out (stopB0 _))
      clear j0 j1 j2 j3 j4 j5 j6 j7 j8 j9 li hI3 hf3 hRd
      obtain ⟨x0, x1, x2, x3, y0, y1, y2, y3, lx⟩ := blk4 hP
      go_wp2_with fail
      refine HN.out.mono ?_
      rintro e w6 ⟨b, st, D, rfl, hI6, hW, hb6, hD6, hf6⟩
      have hff := hf5.trans hf6
      have hzb := hf5.size
      have HI6 := Lib.hid (⟨hI6, hW⟩ : _ ∧ _)
      have HRO := Lib.hid (rowB k w6 (by omega))
      clear x0 x1 x2 x3 y0 y1 y2 y3 lx hP hI6 hW hD6 hf6 HN
      go_wp2_with fail
      refine HRO.out.mono ?_
      rintro e w6' ⟨sl, rfl, hsl, rfl⟩
      have hs1 : sl.size = k := by rw [← ba_size, hsl]; simp
      have hline : (sl ++ ⟨#[98]⟩).toList = aLine k := by rw [ba_app, hsl, ByteArray.toList_eq]; rfl
      have hlsz : (sl ++ ⟨#[98]⟩ : ByteArray).size = k + 1 := by rw [← ba_size, hline]; simp [aLine]
      obtain ⟨r, hr⟩ := times_ends (lo := (lo : Int)) (mx := mx) (k := k) (st := 0) (kp := 0) (pl := pl) (by omega) (by have := HMX.out.2; omega)
      have hbest := times_best (by omega) HMX.out.2 (by omega) hr
      have HL := Lib.hid (longestB (line := sl ++ ⟨#[98]⟩) 0 (18 + 8 * k) r HI6.out.2 HI6.out.1 (by omega) (by omega) (by show 0 < (timesL lo mx).length; simp [timesL]) (by rw [hline]; exact hr) (by omega) (by omega) (by omega))
      rw [hbest] at HL
      have hmx := HMX.out.1
      clear hr hbest hline
      have HLS := Lib.hid hlsz
      clear hlsz
      have hmin : ∀ (w : World) (ty : TypeId), (Builtin.min_ #[3, 3] ty #[.int .i64 k, .int .i64 hi]).run Try.prog w = .ok (.int .i64 ((min k hi : Nat) : Int)) w := fun w ty => by
        have hm : (if hi < k then (hi : Int) else k) = ((min k hi : Nat) : Int) := by rw [Nat.min_def]; split <;> split <;> omega
        simp [Builtin.min_, Builtin.min2, hm]
      go_wp2_with fail
      refine HL.out.mono ?_
      rintro e w7 ⟨rfl, hI7, hf7⟩
      have hff7 := hff.then hf7 (fun q hq hl => by omega)
      clear hI7 hf7 hff HL HI6
      by_cases hlt : (hi : Int) < lo
      · rw [if_pos hlt] at hmx
        subst hmx
        have hbb1 : bb = true := by rw [← hbi]; exact decide_eq_true hlt
        have htk : takes (-1) k = k := by simp [takes]
        rw [htk]
        have d3 : decide (lo ≤ hi) = false := decide_eq_false (by omega)
        by_cases hkl : k < lo
        · rw [if_neg (by omega)]
          have d4 : decide (k < lo) = true := decide_eq_true hkl
          go_wp2_with fail
          go_ret
          exact ⟨rfl, hff7⟩
        · rw [if_pos (by omega)]
          have d4 : decide (k < lo) = false := decide_eq_false hkl
          go_wp2_with fail
          go_ret
          exact ⟨rfl, hff7⟩
      · rw [if_neg hlt] at hmx
        subst hmx
        have htk : takes (hi : Int) k = min k hi := by unfold takes; rw [if_neg (by omega)]; rfl
        rw [htk]
        obtain ⟨mk, hmk⟩ : ∃ q, min k hi = q := ⟨_, rfl⟩
        rw [hmk] at hmin ⊢
        have d3 : decide (lo ≤ hi) = true := decide_eq_true (by omega)
        by_cases hkl : k < lo
        · rw [if_neg (by omega)]
          have d4 : decide (k < lo) = true := decide_eq_true hkl
          clear hmk
          go_wp2_with fail
          go_ret
          exact ⟨rfl, hff7⟩
        · rw [if_pos (by omega)]
          have d4 : decide (k < lo) = false := decide_eq_false hkl
          clear hmk
          go_wp2_with fail
          go_ret
          exact ⟨rfl, hff7⟩
end Go.Proofs.Ytoadmpochaeohaa
