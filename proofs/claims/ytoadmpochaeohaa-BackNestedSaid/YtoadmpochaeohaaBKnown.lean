/-
  Layer 20: known, walked.
-/
import Derived.Test.YtoadmpochaeohaaBTwice
import Derived.Test.YtoadmpochaeohaaBNew
import Derived.Laws.StructEq
set_option linter.unusedVariables false
set_option linter.unusedSimpArgs false
set_option maxRecDepth 100000
namespace Go.Proofs.Ytoadmpochaeohaa
open Go.RowKit

/-- A machine, what mark finds after t sweeps. -/
def mOf (ins : List Ins) (gr co : Nat) (fo pl : Bool) (t : Nat) : Mc := ⟨ins, fo, pl, slotN ins gr, mostN ins co, iterM (sweepM ins (slotN ins gr) (nsN ins gr) ins.length) t (live0 ins.length (nsN ins gr))⟩
def stopB (ins : List Ins) (gr t : Nat) : Bool := decide (sweepM ins (slotN ins gr) (nsN ins gr) ins.length (iterM (sweepM ins (slotN ins gr) (nsN ins gr) ins.length) t (live0 ins.length (nsN ins gr))) = iterM (sweepM ins (slotN ins gr) (nsN ins gr) ins.length) t (live0 ins.length (nsN ins gr)))
theorem newMk (A : Option Addr) (n cp gr co : Nat) (fo pl : Bool) (ins : List Ins) (G : Nat → Prop) (w : World) (t0 : Nat) (hrd : Rd w G 10 A n cp (flatI ins)) (hr : rightE ins gr co = 0) (ht : stopB ins gr t0 = true) :
    Calls Try.prog 12 #[.agg #[.slice A n cp, .int .i64 gr, .int .i64 co, .bool fo], .bool pl] w fun e w' => ∃ (b : Nat) (st : Stt) (D : Nat → Prop), e = .returned (.tuple #[.pointer (some ⟨b, 0, none⟩), .int .i64 0]) ∧ Idle w' D b st (mOf ins gr co fo pl t0) 0 0 ∧ MW (mOf ins gr co fo pl t0) ∧ w.heap.size ≤ b ∧ (∀ k, D k → w.heap.size ≤ k) ∧ Frm (fun _ => False) w w' := by
  refine (newOk A n cp gr co fo pl ins G w hrd hr).mono ?_
  rintro e w' ⟨b, st, t, D, rfl, h1, h2, h3, h4, h5, h6⟩
  have he := iter_stop _ (live0 ins.length (nsN ins gr)) h2 (of_decide_eq_true ht)
  rw [he] at h1 h3
  exact ⟨b, st, D, rfl, h1, new_MW hr h3, h4, h5, h6⟩
/-- The run's tale, to be computed. -/
def ranB (m : Mc) (line : List UInt8) (f at_ st kp : Nat) : Option (Option Nat × Nat × Nat) := (ranS m line f at_ st kp).map fun r => (r.best, r.steps, r.kept)
theorem ranB_some {m : Mc} {line : List UInt8} {f at_ st kp s k : Nat} {o : Option Nat} (h : ranB m line f at_ st kp = some (o, s, k)) : ∃ r, ranS m line f at_ st kp = some r ∧ r.best = o ∧ r.steps = s ∧ r.kept = k := by
  unfold ranB at h
  cases hr : ranS m line f at_ st kp with
  | none => rw [hr] at h; cases h
  | some r =>
    rw [hr] at h
    injection h with h
    injection h with h1 h2
    injection h2 with h2 h3
    exact ⟨r, rfl, h1, h2, h3⟩
theorem longestK {b : Nat} {s : Stt} {m : Mc} {line : ByteArray} {steps kept : Nat} {D : Nat → Prop} {w : World} (L : List UInt8) (at_ f s' k' : Nat) (o : Option Nat) (hL : line.toList = L) (hW : MW m) (hI : Idle w D b s m steps kept) (hat : at_ ≤ line.size) (hls : line.size ≤ 900000) (hin : 0 < m.ins.length)
    (hr : ranB m L f at_ steps kept = some (o, s', k')) (hf : f ≤ 100000000) (hst : steps ≤ 2305843009213693952) (hkp : kept ≤ 2305843009213693952) :
    Calls Try.prog 20 #[.pointer (some ⟨b, 0, none⟩), .string line, .int .i64 at_] w fun e w' => e = .returned (.tuple #[.int .i64 (o.getD 0 : Nat), .bool o.isSome, .int .i64 0]) ∧ Idle w' D b s m s' k' ∧ Frm (fun k => k = b) w w' := by
  obtain ⟨r, h1, rfl, rfl, rfl⟩ := ranB_some hr
  exact longestB at_ f r hW hI hat hls hin (by rw [hL]; exact h1) hf hst hkp

theorem twice_right : rightE twiceL ((1 : Nat) : Int) ((0 : Nat) : Int) = 0 := by kernel_rfl
theorem twice_stop : stopB twiceL 1 3 = true := by kernel_rfl
def aaaaa : ByteArray := ⟨#[97, 97, 97, 97, 97]⟩
def baab : ByteArray := ⟨#[98, 97, 97, 98]⟩
theorem aaaaa_list : aaaaa.toList = [97, 97, 97, 97, 97] := by rw [ByteArray.toList_eq]; rfl
theorem baab_list : baab.toList = [98, 97, 97, 98] := by rw [ByteArray.toList_eq]; rfl
/-- What is told, plain or not. -/
structure KnownT (pl : Bool) (s1 k1 s2 k2 s3 k3 : Nat) : Prop where
  l : ranB (mOf twiceL 1 0 false pl 3) [97, 97, 97, 97, 97] 1000 0 0 0 = some (some 4, s1, k1)
  f1 : findR (mOf twiceL 1 0 false pl 3) [98, 97, 97, 98] 1000 4 1 s1 k1 = some (some (1, 3), s2, k2)
  f2 : findR (mOf twiceL 1 0 false pl 3) [98, 97, 97, 98] 1000 5 0 s2 k2 = some (some (0, 0), s3, k3)
theorem known_f : KnownT false 33 33 50 33 56 33 := ⟨by kernel_rfl, by kernel_rfl, by kernel_rfl⟩
theorem known_t : KnownT true 33 0 50 0 56 0 := ⟨by kernel_rfl, by kernel_rfl, by kernel_rfl⟩
theorem eqGuard50 : Try.prog.eqGuardType Try.prog.depth 50 = false := by kernel_rfl
theorem run_eqSpan13 (w : World) : (Op.equalIn 10000 50 (.agg #[.int .i64 1, .int .i64 3]) (.agg #[.int .i64 1, .int .i64 3])).run Try.prog w = .ok true w := by kernel_rfl
theorem run_eqSpan00 (w : World) : (Op.equalIn 10000 50 (.agg #[.int .i64 0, .int .i64 0]) (.agg #[.int .i64 0, .int .i64 0])).run Try.prog w = .ok true w := by kernel_rfl
attribute [local go_sem high] run_eqSpan13 run_eqSpan00
attribute [local go_sem] eqGuard50

set_option maxHeartbeats 8000000 in
theorem knownC (w : World) : Calls Try.prog 11 #[] w fun e w' => e = .returned (.bool true) ∧ Frm (fun _ => False) w w' := by
  go_enter Try.func11, Try.ntmps11
  go_wp2_with fail
  go_loopw [1] (fun i wr => ∃ k : Nat, i = .int .i64 k ∧ k ≤ 2 ∧ Frm (fun _ => False) w wr) (fun i _ => 2 - (intOf i).toNat)
  case atStart => exact ⟨0, rfl, by omega, Frm.refl _ _⟩
  case round =>
    obtain ⟨k, rfl, hk, hfr⟩ := hrel
    by_cases hk2 : k < 2
    · obtain ⟨pl, k1, hpl, hKT, e1, e2⟩ : ∃ (pl : Bool) (k1 : Nat), ((k : Int) == 1) = pl ∧ KnownT pl 33 k1 50 k1 56 k1 ∧ decide ((0 : Int) < (k1 : Int)) = !pl ∧ ((k : Int) == 0) = !pl := by
        have : k = 0 ∨ k = 1 := by omega
        rcases this with rfl | rfl
        · exact ⟨false, 33, rfl, known_f, rfl, rfl⟩
        · exact ⟨true, 0, rfl, known_t, rfl, rfl⟩
      have HKT := Lib.hid hKT
      have e1n : decide (0 < k1) = !pl := by rw [← e1]; simp
      have e2n : (k == 0) = !pl := by rw [← e2]; cases k <;> rfl
      have hpln : (k == 1) = pl := by rw [← hpl]; have : k = 0 ∨ k = 1 := by omega
                                      rcases this with rfl | rfl <;> rfl
      have d1 : decide ((k : Int) < 2) = true := decide_eq_true (by omega)
      have hk1 : k1 ≤ 100 := by
        cases pl
        · simp only [Bool.not_false, decide_eq_true_eq] at e1
          have h1 := hKT.l
          rw [known_f.l] at h1
          injection h1 with h1
          injection h1 with _ h1
          injection h1 with _ h1
          omega
        · simp only [Bool.not_true, decide_eq_false_iff_not] at e1
          omega
      have HT := Lib.hid (twiceB wr)
      have hgu := eqGuard50
      have hwk : IntKind.i64.wrap ((k : Int) + 1) = ((k + 1 : Nat) : Int) := by rw [IntWalk.i64_in _ (by omega)]; omega
      clear hKT
      go_wp2_with fail
      refine HT.out.mono ?_
      rintro e w1 ⟨A, rfl, hrd, hf1⟩
      have HN := Lib.hid (newMk A 7 7 1 0 false pl twiceL _ w1 3 hrd twice_right twice_stop)
      have hz1 := hf1.size
      have hf1' := hfr.trans hf1
      clear hrd hf1 hfr
      go_wp2_with fail
      refine HN.out.mono ?_
      rintro e w2 ⟨b, st, D, rfl, hI2, hW, hb2, hD2, hf2⟩
      have hz0 := hf1'.size
      have HW := Lib.hid hW
      have HL := Lib.hid (longestK (line := ⟨#[97, 97, 97, 97, 97]⟩) [97, 97, 97, 97, 97] 0 1000 33 k1 (some 4) aaaaa_list hW hI2 (Nat.zero_le _) (by decide) (by show 0 < twiceL.length; decide) HKT.out.l (by omega) (by omega) (by omega))
      have hf12 := hf1'.trans hf2
      clear hW hI2 hf2 hf1' hD2
      go_wp2_with fail
      refine HL.out.mono ?_
      rintro e w3 ⟨rfl, hI3, hf3⟩
      have hfa := hf12.then hf3 (fun q hq hl => by omega)
      have HF1 := Lib.hid (findB (line := ⟨#[98, 97, 97, 98]⟩) 1 1000 _ HW.out hI3 (by decide) (by decide) (by show 0 < twiceL.length; decide) (by rw [show (⟨#[98, 97, 97, 98]⟩ : ByteArray).toList = [98, 97, 97, 98] from baab_list]; exact HKT.out.f1) (by omega) (by decide) (by omega))
      simp only [spanV, Option.isSome_some] at HF1
      clear hI3 hf3 hf12
      go_wp2_with fail
      refine HF1.out.mono ?_
      rintro e w4 ⟨rfl, hI4, hf4⟩
      have hfb := hfa.then hf4 (fun q hq hl => by omega)
      have hlb4 : b < w4.heap.size := by obtain ⟨_, _, _, h⟩ := hI4.obj; exact h.lt
      have HI4 := Lib.hid (⟨hI4, hfb⟩ : _ ∧ _)
      clear hI4 hf4 hfa hfb
      go_upto_region 9 with fail
      have hS5 := Blk.new w4 [.int .i64 1, .int .i64 3] 50
      have hf45 : Frm (fun _ => False) w4 (w4.alloc (.cells #[.int .i64 1, .int .i64 3] 50)) := (Frm.refl _ _).alloc _
      generalize w4.alloc (.cells #[.int .i64 1, .int .i64 3] 50) = w5 at *
      obtain ⟨bS, hbS⟩ : ∃ bS, w4.heap.size = bS := ⟨_, rfl⟩
      simp only [hbS] at hS5 hlb4 ⊢
      clear hbS
      have hI5 := HI4.out.1.low.frm hf45 (fun h => h) (fun _ _ h => h)
      have HF2 := Lib.hid (findB (line := ⟨#[98, 97, 97, 98]⟩) 0 1000 _ HW.out hI5 (by decide) (by decide) (by show 0 < twiceL.length; decide) (by rw [show (⟨#[98, 97, 97, 98]⟩ : ByteArray).toList = [98, 97, 97, 98] from baab_list]; exact HKT.out.f2) (by omega) (by decide) (by first | omega | (simp only; omega)))
      simp only [spanV, Option.isSome_some] at HF2
      clear hI5
      go_wp2_with fail
      refine HF2.out.mono ?_
      rintro e w6 ⟨rfl, hI6, hf6⟩
      have hS6 := hS5.frm hf6 (fun e => by omega)
      have HI6 := Lib.hid (⟨hI6, HI4.out.2.trans (hf45.mono (fun _ h _ => h)) |>.then hf6 (fun q hq hl => by omega)⟩ : _ ∧ _)
      clear hI6 hf6 hS5 hf45
      go_upto_region 10 with fail
      have hS7 := hS6.alloc (.cells #[.int .i64 0, .int .i64 0] 50)
      have hT7 := Blk.new w6 [.int .i64 0, .int .i64 0] 50
      have hf67 : Frm (fun _ => False) w6 (w6.alloc (.cells #[.int .i64 0, .int .i64 0] 50)) := (Frm.refl _ _).alloc _
      generalize w6.alloc (.cells #[.int .i64 0, .int .i64 0] 50) = w7 at *
      obtain ⟨bU, hbU⟩ : ∃ bU, w6.heap.size = bU := ⟨_, rfl⟩
      simp only [hbU] at hT7 ⊢
      clear hbU
      obtain ⟨sv, pv, l0, hB⟩ := HI6.out.1.obj
      have hB7 := hB.frm hf67 (fun h => h)
      have HK := Lib.hid (keptC b _ _ w7 hB7 rfl)
      have HS := Lib.hid (stepsC b _ _ w7 hB7 rfl)
      have a0 := hS7.cell 0
      have a1 := hS7.cell 1
      have u0 := hT7.cell 0
      have u1 := hT7.cell 1
      simp only [List.getElem?_cons_zero, List.getElem?_cons_succ] at a0 a1 u0 u1
      have la := hS7.lt
      have lu := hT7.lt
      have hff := HI6.out.2.trans hf67
      clear hB hB7 hS6 hS7 hT7 hf67
      go_wp2_with fail
      refine HK.out.mono ?_
      rintro e w8 ⟨rfl, rfl⟩
      go_wp2_with fail
      refine HS.out.mono ?_
      rintro e w8 ⟨rfl, rfl⟩
      go_wp2_with fail
      go_roundw
      case measure => simp [intOf] <;> omega
      case rel => exact ⟨k + 1, by go_num, by omega, hff⟩
    · obtain rfl : k = 2 := by omega
      go_wp2_with fail
      go_ret
      exact ⟨rfl, hfr⟩
end Go.Proofs.Ytoadmpochaeohaa
