/-
  The law's 'refused'; reference 16's products; reference 14's better and In.
-/
import Derived.Test.YtamiliccnbkipaaRRight
import Derived.Test.YtamiliccnbkipaaNTurn
set_option linter.unusedVariables false
set_option linter.unusedSimpArgs false
namespace Go.Proofs.Ytamiliccnbkipaa
open Go.RowKit

set_option maxHeartbeats 4000000 in
theorem refusedC (A : Option Addr) (n cp : Nat) (gr co : Int) (fo : Bool) (ins : List Ins) (G : Nat → Prop) (line : ByteArray) (at_ : Int) (w : World) (hrd : Rd w G 10 A n cp (flatI ins)) :
    Calls Try.prog 13 #[.agg #[.slice A n cp, .int .i64 gr, .int .i64 co, .bool fo], .string line, .int .i64 at_] w fun e w' => e = .returned (.int .i64 (beginE ins gr co line at_)) ∧ Frm (fun _ => False) w w' := by
  have hil : ins.length = n := by have := hrd.len; rw [flatI_len] at this; omega
  have hf0 : Frm (fun _ => False) w (w.alloc (.cells #[.slice A n cp, .int .i64 gr, .int .i64 co, .bool fo] 24)) := (Frm.refl _ w).alloc _
  have hP := Blk.new w [.slice A n cp, .int .i64 gr, .int .i64 co, .bool fo] 24
  obtain ⟨r, hr⟩ : ∃ r, beginE ins gr co line at_ = r := ⟨_, rfl⟩
  rw [hr]
  have HR := Lib.hid hr
  clear hr
  go_enter Try.func13, Try.ntmps13
  go_upto_region 1 with fail
  generalize w.alloc (.cells #[.slice A n cp, .int .i64 gr, .int .i64 co, .bool fo] 24) = w1 at *
  generalize w.heap.size = bp at *
  have HQ := Lib.hid (refRight A n cp gr co fo ins G w1 (hrd.frm hf0 (fun _ _ h => h)))
  obtain ⟨p0, p1, p2, p3, q0, q1, q2, q3, lp⟩ := blk4 hP
  go_wp2_with fail
  refine HQ.out.mono ?_
  rintro e w2 ⟨⟨kk, rfl⟩, hf2⟩
  have hff := hf0.trans hf2
  have hP2 := hP.frm hf2 (fun h => h)
  clear p0 p1 p2 p3 q0 q1 q2 q3 lp
  by_cases h1 : rightE ins gr co = 0
  · have hn4 : n ≤ 40000 := by
      rw [← hil]
      unfold rightE at h1
      split at h1
      · cases h1
      · omega
    rw [h1]
    have HF := Lib.hid (refFree A n cp gr co fo ins G w2 (hrd.frm hff (fun _ _ h => h)) hn4)
    obtain ⟨p0, p1, p2, p3, q0, q1, q2, q3, lp⟩ := blk4 hP2
    have H1 := Lib.hid h1
    clear h1
    go_wp2_with fail
    refine HF.out.mono ?_
    rintro e w3 ⟨rfl, hf3⟩
    cases hfb : freeB ins with
    | false =>
      have e : r = 51 := by rw [← HR.out, beginE, if_neg (by rw [H1.out]; simp), if_pos hfb]
      subst e
      clear hfb
      go_wp2_with fail
      go_ret
      exact ⟨rfl, hff.trans hf3⟩
    | true =>
      have hb : (if at_ < 0 ∨ (line.size : Int) < at_ then (1 : Int) else 0) = r := by rw [← HR.out, beginE, H1.out, hfb]; simp
      clear hfb HR
      by_cases h2 : at_ < 0
      · obtain rfl : (1 : Int) = r := by rw [← hb, if_pos (.inl h2)]
        have t2 : decide (at_ < 0) = true := decide_eq_true h2
        clear hb
        go_wp2_with fail
        go_ret
        exact ⟨rfl, hff.trans hf3⟩
      · have t2 : decide (at_ < 0) = false := decide_eq_false h2
        by_cases h3 : (line.size : Int) < at_
        · obtain rfl : (1 : Int) = r := by rw [← hb, if_pos (.inr h3)]
          have t3 : decide ((line.size : Int) < at_) = true := decide_eq_true h3
          clear hb
          go_wp2_with fail
          go_ret
          exact ⟨rfl, hff.trans hf3⟩
        · obtain rfl : (0 : Int) = r := by rw [← hb, if_neg (by omega)]
          have t3 : decide ((line.size : Int) < at_) = false := decide_eq_false h3
          clear hb
          go_wp2_with fail
          go_ret
          exact ⟨rfl, hff.trans hf3⟩
  · have e : r = rightE ins gr co := by rw [← HR.out, beginE, if_pos h1]
    have t1 : (rightE ins gr co != 0) = true := by simpa using h1
    have HE := Lib.hid e
    clear e h1
    go_wp2_with fail
    go_ret
    exact ⟨by rw [HE.out]; rfl, hff⟩

theorem timesC (a b : Int) (w : World) (ha : 0 ≤ a) (hb : 0 ≤ b) (hab : a * b ≤ 4611686018427387904) : Calls Try.prog 26 #[.int .i64 a, .int .i64 b] w fun e w' => e = .returned (.int .i64 (a * b)) ∧ w = w' := by
  by_cases h1 : a = 0
  · subst h1
    go_enter Try.func26, Try.ntmps26
    go_wp2
    go_ret
    exact ⟨by simp, rfl⟩
  · by_cases h2 : b = 0
    · subst h2
      have t1 : (a == 0) = false := by simpa using h1
      go_enter Try.func26, Try.ntmps26
      go_wp2
      go_ret
      exact ⟨by simp, rfl⟩
    · have t1 : (a == 0) = false := by simpa using h1
      have t2 : (b == 0) = false := by simpa using h2
      have hq : ¬ (4611686018427387904 : Int) / b < a := by
        rw [Int.not_lt]
        exact (Int.le_ediv_iff_mul_le (by omega)).2 hab
      have t3 : decide ((4611686018427387904 : Int) / b < a) = false := decide_eq_false hq
      have h0 : 0 ≤ a * b := Int.mul_nonneg ha hb
      have hw : IntKind.i64.wrap (a * b) = a * b := IntWalk.i64_in _ (by omega)
      go_enter Try.func26, Try.ntmps26
      go_wp2
      go_ret
      exact ⟨rfl, rfl⟩

theorem nfaC (A : Option Addr) (n cp : Nat) (gr co : Int) (fo : Bool) (m : Int) (w : World) (hn : n ≤ 1048576) (h0 : 0 ≤ m) (h1 : m ≤ 1048576) : Calls Try.prog 15 #[.agg #[.slice A n cp, .int .i64 gr, .int .i64 co, .bool fo], .int .i64 m] w fun e w' => e = .returned (.int .i64 (4 * n * (m + 1))) ∧ Frm (fun _ => False) w w' := by
  have hP := Blk.new w [.slice A n cp, .int .i64 gr, .int .i64 co, .bool fo] 24
  have hf0 : Frm (fun _ => False) w (w.alloc (.cells #[.slice A n cp, .int .i64 gr, .int .i64 co, .bool fo] 24)) := (Frm.refl _ w).alloc _
  have hb1 : (4 : Int) * n ≤ 4194304 := by omega
  have hb2 : (4 : Int) * n * (m + 1) ≤ 4611686018427387904 := by
    have : (4 : Int) * n * (m + 1) ≤ 4194304 * (m + 1) := Int.mul_le_mul_of_nonneg_right hb1 (by omega)
    omega
  have HT1 := Lib.hid (fun w => timesC 4 n w (by omega) (by omega) (by omega))
  have HT2 := Lib.hid (fun w => timesC (4 * n) (m + 1) w (by omega) (by omega) hb2)
  have hw1 : IntKind.i64.wrap (m + 1) = m + 1 := IntWalk.i64_in _ (by omega)
  go_enter Try.func15, Try.ntmps15
  go_upto_region 1 with fail
  generalize w.alloc (.cells #[.slice A n cp, .int .i64 gr, .int .i64 co, .bool fo] 24) = w1 at *
  generalize w.heap.size = bp at *
  obtain ⟨p0, p1, p2, p3, q0, q1, q2, q3, lp⟩ := blk4 hP
  go_wp2_with fail
  refine (HT1.out w1).mono ?_
  rintro e w2 ⟨rfl, rfl⟩
  go_wp2_with fail
  refine (HT2.out w1).mono ?_
  rintro e w3 ⟨rfl, rfl⟩
  go_wp2_with fail
  go_ret
  exact ⟨rfl, hf0⟩
theorem betterC (a b : Int) (w : World) : Calls Try.prog 36 #[.int .i64 a, .int .i64 b] w fun e w' => e = .returned (.int .i64 (max a b)) ∧ w = w' := by
  by_cases h : b < a
  · have t1 : decide (b < a) = true := decide_eq_true h
    have hm : max a b = a := Int.max_eq_left (by omega)
    rw [hm]
    go_enter Try.func36, Try.ntmps36
    go_wp2
    go_ret
    exact ⟨rfl, rfl⟩
  · have t1 : decide (b < a) = false := decide_eq_false h
    have hm : max a b = b := Int.max_eq_right (by omega)
    rw [hm]
    go_enter Try.func36, Try.ntmps36
    go_wp2
    go_ret
    exact ⟨rfl, rfl⟩
end Go.Proofs.Ytamiliccnbkipaa
