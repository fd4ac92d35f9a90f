/-
  Layer 20: the chapter's first program.
-/
import Derived.Test.YtoadmpochaeohaaPa16
import Derived.Test.YtoadmpochaeohaaPa18
import Derived.Test.YtoadmpochaeohaaPa19
import Derived.Laws.StructEq
import Derived.Test.YtoadmpochaeohaaPa31
section
set_option linter.unusedVariables false
set_option linter.unusedSimpArgs false
set_option maxRecDepth 100000
namespace Go.Proofs.Ytoadmpochaeohaa
open Go.RowKit

def I0 (op x y : Int) : Ins := ⟨op, x, y, 0, 0, 0, 0, 0, 0, 0⟩
def twiceL : List Ins := [I0 6 0 0, I0 2 2 4, ⟨1, 0, 0, 0, 0, 0, 0, 8589934592, 0, 0⟩, I0 3 1 0, I0 7 0 0, I0 8 0 0, I0 11 0 0]
theorem Blk.rdA {w : World} {F : Nat → Prop} {g : Nat} {cur : List Value} {t : TypeId} {n size : Nat} (h : Blk w g cur t) (hF : F g) (hn : cur.length = n * size) : Rd w F size (some ⟨g, 0, none⟩) n n cur :=
  ⟨hn, Nat.le_refl _, fun h => (by cases h), fun _ => ⟨g, 0, rfl, hF, h.lt, fun j u hj => by rw [h.cell, Nat.zero_add]; exact hj⟩⟩
theorem three3 (w : World) (x y z : List Value) (a b c : TypeId) :
    Blk (((w.alloc (.cells x.toArray a)).alloc (.cells y.toArray b)).alloc (.cells z.toArray c)) w.heap.size x a ∧ Blk (((w.alloc (.cells x.toArray a)).alloc (.cells y.toArray b)).alloc (.cells z.toArray c)) (w.heap.size + 1) y b ∧
    Blk (((w.alloc (.cells x.toArray a)).alloc (.cells y.toArray b)).alloc (.cells z.toArray c)) (w.heap.size + 1 + 1) z c ∧ Frm (fun _ => False) w (((w.alloc (.cells x.toArray a)).alloc (.cells y.toArray b)).alloc (.cells z.toArray c)) := by
  have e1 : (w.alloc (.cells x.toArray a)).heap.size = w.heap.size + 1 := by unfold World.alloc; exact Array.size_push _
  have e2 : ((w.alloc (.cells x.toArray a)).alloc (.cells y.toArray b)).heap.size = w.heap.size + 1 + 1 := by rw [← e1]; unfold World.alloc; exact Array.size_push _
  refine ⟨((Blk.new w x a).alloc _).alloc _, ?_, ?_, ((((Frm.refl _ _).alloc _).alloc _).alloc _)⟩
  · rw [← e1]; exact ((Blk.new _ y b).alloc _)
  · rw [← e2]; exact (Blk.new _ z c)
set_option maxHeartbeats 4000000 in
theorem twiceB (w : World) : Calls Try.prog 30 #[] w fun e w' => ∃ A, e = .returned (.agg #[.slice A 7 7, .int .i64 1, .int .i64 0, .bool false]) ∧ Rd w' (fun q => w.heap.size ≤ q) 10 A 7 7 (flatI twiceL) ∧ Frm (fun _ => False) w w' := by
  go_enter Try.func30, Try.ntmps30
  go_wp2_with fail
  have T := three3 w [.slice (some ⟨w.heap.size + 1 + 1, 0, none⟩) 7 7, .int .i64 1, .int .i64 0, .bool false] [.int .u64 0, .int .u64 8589934592, .int .u64 0, .int .u64 0] (flatI twiceL) 24 37 39
  obtain ⟨t1, _, t3, t4⟩ := T
  refine bodyPost_ret (results_one rfl (RV.cell rfl t1 Try.underlying24 rfl (by kernel_rfl))) rfl ?_
  exact ⟨_, rfl, t3.rdA (by omega) rfl, t4⟩
end Go.Proofs.Ytoadmpochaeohaa
end

section
set_option linter.unusedVariables false
set_option linter.unusedSimpArgs false
set_option maxRecDepth 100000
namespace Go.Proofs.Ytoadmpochaeohaa
open Go.RowKit

/-- A machine, what mark finds after t sweeps. -/
def mOf (ins : List Ins) (gr co : Nat) (fo pl : Bool) (t : Nat) : Mc := ⟨ins, fo, pl, slotN ins gr, mostN ins co, iterM (sweepM ins (slotN ins gr) (nsN ins gr) ins.length) t (live0 ins.length (nsN ins gr))⟩
def stopB (ins : List Ins) (gr t : Nat) : Bool := decide (sweepM ins (slotN ins gr) (nsN ins gr) ins.length (iterM (sweepM ins (slotN ins gr) (nsN ins gr) ins.length) t (live0 ins.length (nsN ins gr))) = iterM (sweepM ins (slotN ins gr) (nsN ins gr) ins.length) t (live0 ins.length (nsN ins gr)))
theorem newMk (A : Option Addr) (n cp gr co : Nat) (fo pl : Bool) (ins : List Ins) (G : Nat → Prop) (w : World) (t0 : Nat) (hrd : Rd w G 10 A n cp (flatI ins)) (hr : rightE ins gr co = 0) (ht : stopB ins gr t0 = true) :
    Calls Try.prog 12 #[.agg #[.slice A n cp, .int .i64 gr, .int .i64 co, .bool fo], .bool pl] w fun e w' => ∃ (b : Nat) (st : Stt) (D : Nat → Prop), e = .returned (.tuple #[.pointer (some ⟨b, 0, none⟩), .int .i64 0]) ∧ Idle w' D b st (mOf ins gr co fo pl t0) 0 0 ∧ MW (mOf ins gr co fo pl t0) ∧ w.heap.size ≤ b ∧ (∀ k, D k → w.heap.size ≤ k) ∧ Frm (fun _ => False) w w' := by
  refine (newOk A n cp gr co fo pl ins G w hrd hr).mono ?_
  rintro e w' ⟨b, st, t, D, rfl, h1, h2, h3, h4, h5, h6⟩
  have he := iter_stop _ (live0 ins.length (nsN ins gr)) h2 (of_decide_eq_true ht)
  rw [he] at h1 h3
  exact ⟨b, st, D, rfl, h1, new_MW hr h3, h4, h5, h6⟩
/-- The run's tale, to be computed. -/
def ranB (m : Mc) (line : List UInt8) (f at_ st kp : Nat) : Option (Option Nat × Nat × Nat) := (ranS m line f at_ st kp).map fun r => (r.best, r.steps, r.kept)
theorem ranB_some {m : Mc} {line : List UInt8} {f at_ st kp s k : Nat} {o : Option Nat} (h : ranB m line f at_ st kp = some (o, s, k)) : ∃ r, ranS m line f at_ st kp = some r ∧ r.best = o ∧ r.steps = s ∧ r.kept = k := by
  unfold ranB at h
  cases hr : ranS m line f at_ st kp with
  | none => rw [hr] at h; cases h
  | some r =>
    rw [hr] at h
    injection h with h
    injection h with h1 h2
    injection h2 with h2 h3
    exact ⟨r, rfl, h1, h2, h3⟩
theorem longestK {b : Nat} {s : Stt} {m : Mc} {line : ByteArray} {steps kept : Nat} {D : Nat → Prop} {w : World} (L : List UInt8) (at_ f s' k' : Nat) (o : Option Nat) (hL : line.toList = L) (hW : MW m) (hI : Idle w D b s m steps kept) (hat : at_ ≤ line.size) (hls : line.size ≤ 900000) (hin : 0 < m.ins.length)
    (hr : ranB m L f at_ steps kept = some (o, s', k')) (hf : f ≤ 100000000) (hst : steps ≤ 2305843009213693952) (hkp : kept ≤ 2305843009213693952) :
    Calls Try.prog 20 #[.pointer (some ⟨b, 0, none⟩), .string line, .int .i64 at_] w fun e w' => e = .returned (.tuple #[.int .i64 (o.getD 0 : Nat), .bool o.isSome, .int .i64 0]) ∧ Idle w' D b s m s' k' ∧ Frm (fun k => k = b) w w' := by
  obtain ⟨r, h1, rfl, rfl, rfl⟩ := ranB_some hr
  exact longestB at_ f r hW hI hat hls hin (by rw [hL]; exact h1) hf hst hkp

theorem twice_right : rightE twiceL ((1 : Nat) : Int) ((0 : Nat) : Int) = 0 := by kernel_rfl
theorem twice_stop : stopB twiceL 1 3 = true := by kernel_rfl
def aaaaa : ByteArray := ⟨#[97, 97, 97, 97, 97]⟩
def baab : ByteArray := ⟨#[98, 97, 97, 98]⟩
theorem aaaaa_list : aaaaa.toList = [97, 97, 97, 97, 97] := by rw [ByteArray.toList_eq]; rfl
theorem baab_list : baab.toList = [98, 97, 97, 98] := by rw [ByteArray.toList_eq]; rfl
/-- What is told, plain or not. -/
structure KnownT (pl : Bool) (s1 k1 s2 k2 s3 k3 : Nat) : Prop where
  l : ranB (mOf twiceL 1 0 false pl 3) [97, 97, 97, 97, 97] 1000 0 0 0 = some (some 4, s1, k1)
  f1 : findR (mOf twiceL 1 0 false pl 3) [98, 97, 97, 98] 1000 4 1 s1 k1 = some (some (1, 3), s2, k2)
  f2 : findR (mOf twiceL 1 0 false pl 3) [98, 97, 97, 98] 1000 5 0 s2 k2 = some (some (0, 0), s3, k3)
theorem known_f : KnownT false 33 33 50 33 56 33 := ⟨by kernel_rfl, by kernel_rfl, by kernel_rfl⟩
theorem known_t : KnownT true 33 0 50 0 56 0 := ⟨by kernel_rfl, by kernel_rfl, by kernel_rfl⟩
theorem eqGuard50 : Try.prog.eqGuardType Try.prog.depth 50 = false := by kernel_rfl
theorem run_eqSpan13 (w : World) : (Op.equalIn 10000 50 (.agg #[.int .i64 1, .int .i64 3]) (.agg #[.int .i64 1, .int .i64 3])).run Try.prog w = .ok true w := by kernel_rfl
theorem run_eqSpan00 (w : World) : (Op.equalIn 10000 50 (.agg #[.int .i64 0, .int .i64 0]) (.agg #[.int .i64 0, .int .i64 0])).run Try.prog w = .ok true w := by kernel_rfl
attribute [local go_sem high] run_eqSpan13 run_eqSpan00
attribute [local go_sem] eqGuard50

set_option maxHeartbeats 8000000 in
theorem knownC (w : World) : Calls Try.prog 11 #[] w fun e w' => e = .returned (.bool true) ∧ Frm (fun _ => False) w w' := by
  go_enter Try.func11, Try.ntmps11
  go_wp2_with fail
  go_loopw [1] (fun i wr => ∃ k : Nat, i = .int .i64 k ∧ k ≤ 2 ∧ Frm (fun _ => False) w wr) (fun i _ => 2 - (intOf i).toNat)
  case atStart => exact ⟨0, rfl, by omega, Frm.refl _ _⟩
  case round =>
    obtain ⟨k, rfl, hk, hfr⟩ := hrel
    by_cases hk2 : k < 2
    · obtain ⟨pl, k1, hpl, hKT, e1, e2⟩ : ∃ (pl : Bool) (k1 : Nat), ((k : Int) == 1) = pl ∧ KnownT pl 33 k1 50 k1 56 k1 ∧ decide ((0 : Int) < (k1 : Int)) = !pl ∧ ((k : Int) == 0) = !pl := by
        have : k = 0 ∨ k = 1 := by omega
        rcases this with rfl | rfl
        · exact ⟨false, 33, rfl, known_f, rfl, rfl⟩
        · exact ⟨true, 0, rfl, known_t, rfl, rfl⟩
      have HKT := Lib.hid hKT
      have e1n : decide (0 < k1) = !pl := by rw [← e1]; simp
      have e2n : (k == 0) = !pl := by rw [← e2]; cases k <;> rfl
      have hpln : (k == 1) = pl := by rw [← hpl]; have : k = 0 ∨ k = 1 := by omega
                                      rcases this with rfl | rfl <;> rfl
      have d1 : decide ((k : Int) < 2) = true := decide_eq_true (by omega)
      have hk1 : k1 ≤ 100 := by
        cases pl
        · simp only [Bool.not_false, decide_eq_true_eq] at e1
          have h1 := hKT.l
          rw [known_f.l] at h1
          injection h1 with h1
          injection h1 with _ h1
          injection h1 with _ h1
          omega
        · simp only [Bool.not_true, decide_eq_false_iff_not] at e1
          omega
      have HT := Lib.hid (twiceB wr)
      have hgu := eqGuard50
      have hwk : IntKind.i64.wrap ((k : Int) + 1) = ((k + 1 : Nat) : Int) := by rw [IntWalk.i64_in _ (by omega)]; omega
      clear hKT
      go_wp2_with fail
      refine HT.out.mono ?_
      rintro e w1 ⟨A, rfl, hrd, hf1⟩
      have HN := Lib.hid (newMk A 7 7 1 0 false pl twiceL _ w1 3 hrd twice_right twice_stop)
      have hz1 := hf1.size
      have hf1' := hfr.trans hf1
      clear hrd hf1 hfr
      go_wp2_with fail
      refine HN.out.mono ?_
      rintro e w2 ⟨b, st, D, rfl, hI2, hW, hb2, hD2, hf2⟩
      have hz0 := hf1'.size
      have HW := Lib.hid hW
      have HL := Lib.hid (longestK (line := ⟨#[97, 97, 97, 97, 97]⟩) [97, 97, 97, 97, 97] 0 1000 33 k1 (some 4) aaaaa_list hW hI2 (Nat.zero_le _) (by decide) (by show 0 < twiceL.length; decide) HKT.out.l (by omega) (by omega) (by omega))
      have hf12 := hf1'.trans hf2
      clear hW hI2 hf2 hf1' hD2
      go_wp2_with fail
      refine HL.out.mono ?_
      rintro e w3 ⟨rfl, hI3, hf3⟩
      have hfa := hf12.then hf3 (fun q hq hl => by omega)
      have HF1 := Lib.hid (findB (line := ⟨#[98, 97, 97, 98]⟩) 1 1000 _ HW.out hI3 (by decide) (by decide) (by show 0 < twiceL.length; decide) (by rw [show (⟨#[98, 97, 97, 98]⟩ : ByteArray).toList = [98, 97, 97, 98] from baab_list]; exact HKT.out.f1) (by omega) (by decide) (by omega))
      simp only [spanV, Option.isSome_some] at HF1
      clear hI3 hf3 hf12
      go_wp2_with fail
      refine HF1.out.mono ?_
      rintro e w4 ⟨rfl, hI4, hf4⟩
      have hfb := hfa.then hf4 (fun q hq hl => by omega)
      have hlb4 : b < w4.heap.size := by obtain ⟨_, _, _, h⟩ := hI4.obj; exact h.lt
      have HI4 := Lib.hid (⟨hI4, hfb⟩ : _ ∧ _)
      clear hI4 hf4 hfa hfb
      go_upto_region 9 with fail
      have hS5 := Blk.new w4 [.int .i64 1, .int .i64 3] 50
      have hf45 : Frm (fun _ => False) w4 (w4.alloc (.cells #[.int .i64 1, .int .i64 3] 50)) := (Frm.refl _ _).alloc _
      generalize w4.alloc (.cells #[.int .i64 1, .int .i64 3] 50) = w5 at *
      obtain ⟨bS, hbS⟩ : ∃ bS, w4.heap.size = bS := ⟨_, rfl⟩
      simp only [hbS] at hS5 hlb4 ⊢
      clear hbS
      have hI5 := HI4.out.1.low.frm hf45 (fun h => h) (fun _ _ h => h)
      have HF2 := Lib.hid (findB (line := ⟨#[98, 97, 97, 98]⟩) 0 1000 _ HW.out hI5 (by decide) (by decide) (by show 0 < twiceL.length; decide) (by rw [show (⟨#[98, 97, 97, 98]⟩ : ByteArray).toList = [98, 97, 97, 98] from baab_list]; exact HKT.out.f2) (by omega) (by decide) (by first | omega | (simp only; omega)))
      simp only [spanV, Option.isSome_some] at HF2
      clear hI5
      go_wp2_with fail
      refine HF2.out.mono ?_
      rintro e w6 ⟨rfl, hI6, hf6⟩
      have hS6 := hS5.frm hf6 (fun e => by omega)
      have HI6 := Lib.hid (⟨hI6, HI4.out.2.trans (hf45.mono (fun _ h _ => h)) |>.then hf6 (fun q hq hl => by omega)⟩ : _ ∧ _)
      clear hI6 hf6 hS5 hf45
      go_upto_region 10 with fail
      have hS7 := hS6.alloc (.cells #[.int .i64 0, .int .i64 0] 50)
      have hT7 := Blk.new w6 [.int .i64 0, .int .i64 0] 50
      have hf67 : Frm (fun _ => False) w6 (w6.alloc (.cells #[.int .i64 0, .int .i64 0] 50)) := (Frm.refl _ _).alloc _
      generalize w6.alloc (.cells #[.int .i64 0, .int .i64 0] 50) = w7 at *
      obtain ⟨bU, hbU⟩ : ∃ bU, w6.heap.size = bU := ⟨_, rfl⟩
      simp only [hbU] at hT7 ⊢
      clear hbU
      obtain ⟨sv, pv, l0, hB⟩ := HI6.out.1.obj
      have hB7 := hB.frm hf67 (fun h => h)
      have HK := Lib.hid (keptC b _ _ w7 hB7 rfl)
      have HS := Lib.hid (stepsC b _ _ w7 hB7 rfl)
      have a0 := hS7.cell 0
      have a1 := hS7.cell 1
      have u0 := hT7.cell 0
      have u1 := hT7.cell 1
      simp only [List.getElem?_cons_zero, List.getElem?_cons_succ] at a0 a1 u0 u1
      have la := hS7.lt
      have lu := hT7.lt
      have hff := HI6.out.2.trans hf67
      clear hB hB7 hS6 hS7 hT7 hf67
      go_wp2_with fail
      refine HK.out.mono ?_
      rintro e w8 ⟨rfl, rfl⟩
      go_wp2_with fail
      refine HS.out.mono ?_
      rintro e w8 ⟨rfl, rfl⟩
      go_wp2_with fail
      go_roundw
      case measure => simp [intOf] <;> omega
      case rel => exact ⟨k + 1, by go_num, by omega, hff⟩
    · obtain rfl : k = 2 := by omega
      go_wp2_with fail
      go_ret
      exact ⟨rfl, hfr⟩
end Go.Proofs.Ytoadmpochaeohaa
end

section
set_option linter.unusedVariables false
set_option linter.unusedSimpArgs false
set_option maxRecDepth 100000
namespace Go.Proofs.Ytoadmpochaeohaa
open Go.RowKit

theorem refs_of {ins : List Ins} {gr : Nat} (hl : ∀ i ∈ ins, i.op = 8 → 0 ≤ i.n ∧ i.n < gr) : ∀ i ∈ ins, i.op = 8 → (refsN ins gr).getD i.n.toNat false = true := by
  unfold refsN
  have mono : ∀ (l : List Ins) (r : List Bool) (k : Nat), r.getD k false = true → (l.foldl (fun l i => if i.op = 8 then l.set i.n.toNat true else l) r).getD k false = true := by
    intro l
    induction l with
    | nil => intro r k h; exact h
    | cons j l ih =>
      intro r k h
      rw [List.foldl_cons]
      refine ih _ k ?_
      split
      · by_cases e : j.n.toNat = k
        · subst e
          have hk : j.n.toNat < r.length := by
            rw [List.getD_eq_getElem?_getD] at h
            cases hq : r[j.n.toNat]? with
            | none => rw [hq] at h; cases h
            | some x => exact (List.getElem?_eq_some_iff.1 hq).1
          exact getD_set_eq _ _ _ _ hk
        · rw [getD_set_ne _ _ _ _ _ e]; exact h
      · exact h
  have key : ∀ (l : List Ins) (r : List Bool), r.length = gr → (∀ i ∈ l, i.op = 8 → 0 ≤ i.n ∧ i.n < gr) → ∀ i ∈ l, i.op = 8 → (l.foldl (fun l i => if i.op = 8 then l.set i.n.toNat true else l) r).getD i.n.toNat false = true := by
    intro l
    induction l with
    | nil => intro r _ _ i hi; cases hi
    | cons j l ih =>
      intro r hr hl2 i hi h8
      rw [List.foldl_cons]
      rcases List.mem_cons.1 hi with rfl | hi
      · refine mono l _ _ ?_
        rw [if_pos h8]
        exact getD_set_eq _ _ _ _ (by have := hl2 i (List.mem_cons_self ..) h8; omega)
      · exact ih _ (by split <;> simp [hr]) (fun x hx => hl2 x (List.mem_cons_of_mem _ hx)) i hi h8
  exact key ins _ (List.length_replicate ..) hl
/-- What stands so deep in the tree. -/
def GdR (ins : List Ins) (gr co N : Nat) (f : Nat) (c : RC) : Prop := (RW ins N c ∧ LR gr co c) ∧ ∀ z ∈ c.turns, z + f ≤ 900000
theorem few_ends {ins : List Ins} {gr co : Nat} {fo pl : Bool} {t : Nat} {L : List UInt8} {a st kp : Nat} (hr : rightE ins gr co = 0) (hN : L.length ≤ 100000) (hat : a ≤ L.length) (hfew : manyR ins fo L gr co 2000 a ≤ 2000) :
    ∃ r, ranS (mOf ins gr co fo pl t) L 5000 a st kp = some r := by
  obtain ⟨r1, r2, r3, r4, r5⟩ := right_ok hr
  have hfi : ∀ (k : Nat) (i : Ins), ins[k]? = some i → FineI ins.length gr co k i := fun k i hi => fine_ok (r5 k i hi)
  have h8 : ∀ i ∈ ins, i.op = 8 → 0 ≤ i.n ∧ i.n < gr := fun i hi h => by
    obtain ⟨q, hq, e⟩ := List.getElem_of_mem hi
    exact (e ▸ hfi q _ (List.getElem?_eq_getElem hq) : FineI _ _ _ _ i).g (.inr (.inr h))
  have h10 : ∀ i ∈ ins, i.op = 10 → 0 ≤ i.mn ∧ i.mn ≤ 255 ∧ i.mx ≤ 255 := fun i hi h => by
    obtain ⟨q, hq, e⟩ := List.getElem_of_mem hi
    have := (e ▸ hfi q _ (List.getElem?_eq_getElem hq) : FineI _ _ _ _ i).b h
    omega
  have hS := slotN_R h8
  obtain ⟨s1, _, _⟩ := slotP_inv ins _ _ (slI0 gr) h8
  have hcnt : (slotP ins (List.replicate gr (-1)) 0).2 = ((nsS (mOf ins gr co fo pl t) : Nat) : Int) := s1.cnt.symm
  obtain ⟨ml, mb⟩ := mostP_inv ins (List.replicate co 0) h10 (fun v hv => by rw [List.eq_of_mem_replicate hv]; omega)
  rw [List.length_replicate] at ml
  have hm0 : ∀ k, 0 ≤ (mostN ins co).getD k 0 := fun k => by
    rw [List.getD_eq_getElem?_getD]
    cases hq : (mostN ins co)[k]? with
    | none => simp
    | some v => exact (mb v (List.mem_of_getElem? hq)).1
  have hlb : ∀ c, RW ins L.length c → c.small := fun c h => RW_small h r1 (by omega)
  unfold manyR at hfew
  obtain ⟨k, hk1, hk2⟩ := walk_sz (nextR ins fo L (refsN ins gr)) 2000 (2000 + 2) 0 [] (c0R gr co a) (by omega) (by omega) hfew
  have hstart : absC (mOf ins gr co fo pl t) (c0R gr co a) = startS (mOf ins gr co fo pl t) a := by
    unfold absC startS
    have p1 : (List.range (nsS (mOf ins gr co fo pl t))).map (ptOf (mOf ins gr co fo pl t).slot (c0R gr co a)) = ((mOf ins gr co fo pl t).slot.filter (0 ≤ ·)).map fun _ => ⟨-1, -1, -1⟩ := by
      have e1 : ∀ j, ptOf (mOf ins gr co fo pl t).slot (c0R gr co a) j = ⟨-1, -1, -1⟩ := fun j => by
        have rep : ∀ (n g : Nat), (List.replicate n (-1 : Int)).getD g (-1) = -1 := fun n g => by
          rw [List.getD_eq_getElem?_getD, List.getElem?_replicate]; split <;> rfl
        unfold ptOf c0R
        simp only [rep]
      apply List.ext_getElem?
      intro j
      rw [List.getElem?_map, List.getElem?_map]
      by_cases hj : j < nsS (mOf ins gr co fo pl t)
      · rw [List.getElem?_range hj, Option.map_some, e1, List.getElem?_eq_getElem hj]; rfl
      · rw [List.getElem?_eq_none (by simp; omega), List.getElem?_eq_none (by unfold nsS at hj; omega)]; rfl
    have p2 : (List.range (mOf ins gr co fo pl t).most.length).map (tnOf (mOf ins gr co fo pl t).most (c0R gr co a)) = (mOf ins gr co fo pl t).most.map fun _ => ⟨0, -1⟩ := by
      apply List.ext_getElem?
      intro j
      rw [List.getElem?_map, List.getElem?_map]
      by_cases hj : j < (mOf ins gr co fo pl t).most.length
      · rw [List.getElem?_range hj, Option.map_some, List.getElem?_eq_getElem hj]
        have hz := hm0 j
        unfold tnOf c0R
        simp only [Option.map_some, Option.some.injEq]
        have q1 : (List.replicate co (0 : Int)).getD j 0 = 0 := by rw [List.getD_eq_getElem?_getD, List.getElem?_replicate]; split <;> rfl
        have q2 : (List.replicate co (-1 : Int)).getD j (-1) = -1 := by rw [List.getD_eq_getElem?_getD, List.getElem?_replicate]; split <;> rfl
        rw [q1, q2]
        congr 1
        show min 0 ((mostN ins co).getD j 0) = 0
        omega
      · rw [List.getElem?_eq_none (by simp; omega), List.getElem?_eq_none (by omega)]; rfl
    rw [p1, p2]
    rfl
  unfold ranS
  rw [← hstart]
  obtain ⟨r, hrun⟩ := run_tree (m := mOf ins gr co fo pl t) (L := L) (nx := nextR ins fo L (refsN ins gr)) (abs := absC (mOf ins gr co fo pl t)) (Good := GdR ins gr co L.length) (GW := fun c => RW ins L.length c ∧ LR gr co c)
    (fun f c hg d hd => by
      obtain ⟨⟨g1, g2⟩, g3⟩ := hg
      obtain ⟨q1, q2⟩ := next_RW (M := 900000 - ((f : Int) + 1)) hfi g1 (fun z hz => by have := g3 z hz; omega) (by omega) hd
      exact ⟨⟨q1, next_LR g2 hd⟩, fun z hz => by have := q2 z hz; omega⟩)
    (fun f c hg => hg.1)
    (fun c hg => on_abs (m := mOf ins gr co fo pl t) (ins := ins) (gr := gr) (co := co) (refs := refsN ins gr) rfl hS (fun v hv h0 => by have := hS.bd v hv; omega) (fun j hj => hS.sur j (by omega)) ml hm0
      (fun i hi h => by
        obtain ⟨q, hq, e⟩ := List.getElem_of_mem hi
        have hc := (e ▸ hfi q _ (List.getElem?_eq_getElem hq) : FineI _ _ _ _ i).c (.inr h)
        exact (mostP_ge ins (List.replicate co 0) i.n.toNat (by rw [List.length_replicate]; omega)).2 i hi h rfl) hfi (refs_of h8) hg.2)
    (fun c c' h h' e => text_inj h.2 h'.2 (hlb c h.1) (hlb c' h'.1) e)
    (2000 + 2) [] (c0R gr co a) k hk1 ⟨⟨c0_RW r4 hat, c0_LR gr co a⟩, fun z hz => by have := List.eq_of_mem_replicate hz; omega⟩ [] 0 ⟨[], st, kp, none⟩ (fun t ht => by cases ht) (fun rn' _ => ⟨rn', rfl⟩)
  exact ⟨r, by rw [show 5000 = 2 * k + 0 + (5000 - 2 * k) by omega]; exact run_more _ _ _ r _ hrun⟩
end Go.Proofs.Ytoadmpochaeohaa
end
