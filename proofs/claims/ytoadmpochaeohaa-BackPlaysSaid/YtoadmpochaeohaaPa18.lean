/-
  Layer 20: Longest, Find, walked.
-/
import Derived.Test.YtoadmpochaeohaaPa17
section
set_option linter.unusedVariables false
set_option linter.unusedSimpArgs false
set_option maxRecDepth 100000
namespace Go.Proofs.Ytoadmpochaeohaa
open Go.RowKit

/-- A machine that stands still. -/
structure Idle (w : World) (D : Nat → Prop) (b : Nat) (s : Stt) (m : Mc) (steps kept : Nat) : Prop where
  obj : ∃ sv pv line, Blk w b (cellsB s m sv pv line steps kept) 78
  sta : Sta w D s m
  no : ¬ D b
theorem Idle.frm {S : Nat → Prop} {w w' : World} {D : Nat → Prop} {b : Nat} {s : Stt} {m : Mc} {steps kept : Nat} (h : Idle w D b s m steps kept) (f : Frm S w w') (hb : ¬ S b) (hd : ∀ k, D k → ¬ S k) : Idle w' D b s m steps kept := by
  obtain ⟨sv, pv, line, h1⟩ := h.obj
  exact ⟨⟨sv, pv, line, h1.frm f hb⟩, h.sta.frm f hd, h.no⟩
theorem Idle.low {w : World} {D : Nat → Prop} {b : Nat} {s : Stt} {m : Mc} {steps kept : Nat} (h : Idle w D b s m steps kept) : Idle w (fun k => D k ∧ k < w.heap.size) b s m steps kept := ⟨h.obj, h.sta.mono fun k h l => ⟨h, l⟩, fun h2 => h.no h2.1⟩
/-- The run from a place on. -/
def ranS (m : Mc) (line : List UInt8) (f : Nat) (at_ steps kept : Nat) : Option Rn := runS m line f [.look (startS m at_)] ⟨[], steps, kept, none⟩

theorem runI {b : Nat} {s : Stt} {m : Mc} {line : ByteArray} {steps kept : Nat} {D : Nat → Prop} {w : World} (at_ f : Nat) (r : Rn) (hW : MW m) (hI : Idle w D b s m steps kept) (hat : at_ ≤ line.size) (hls : line.size ≤ 900000) (hin : 0 < m.ins.length)
    (hr : ranS m line.toList f at_ steps kept = some r) (hf : f ≤ 100000000) (hst : steps ≤ 2305843009213693952) (hkp : kept ≤ 2305843009213693952) :
    Calls Try.prog 41 #[.pointer (some ⟨b, 0, none⟩), .string line, .int .i64 at_] w fun e w' => e = .returned (.tuple #[.int .i64 (r.best.getD 0 : Nat), .bool r.best.isSome]) ∧ Idle w' D b s m r.steps r.kept ∧ Frm (fun k => k = b) w w' := by
  obtain ⟨sv, pv, line0, hB⟩ := hI.obj
  refine (runM at_ f r hW hB hI.sta hI.no hat hls hin hr hf hst hkp).mono ?_
  rintro e w' ⟨rfl, ⟨sv', pv', h1⟩, h2⟩
  exact ⟨rfl, ⟨⟨sv', pv', line, h1⟩, hI.sta.frm h2 (fun k hk e => hI.no (e ▸ hk)), hI.no⟩, h2⟩

set_option maxHeartbeats 4000000 in
theorem longestB {b : Nat} {s : Stt} {m : Mc} {line : ByteArray} {steps kept : Nat} {D : Nat → Prop} {w : World} (at_ f : Nat) (r : Rn) (hW : MW m) (hI : Idle w D b s m steps kept) (hat : at_ ≤ line.size) (hls : line.size ≤ 900000) (hin : 0 < m.ins.length)
    (hr : ranS m line.toList f at_ steps kept = some r) (hf : f ≤ 100000000) (hst : steps ≤ 2305843009213693952) (hkp : kept ≤ 2305843009213693952) :
    Calls Try.prog 20 #[.pointer (some ⟨b, 0, none⟩), .string line, .int .i64 at_] w fun e w' => e = .returned (.tuple #[.int .i64 (r.best.getD 0 : Nat), .bool r.best.isSome, .int .i64 0]) ∧ Idle w' D b s m r.steps r.kept ∧ Frm (fun k => k = b) w w' := by
  have HR := Lib.hid (runI at_ f r hW hI hat hls hin hr hf hst hkp)
  have d1 : decide ((at_ : Int) < 0) = false := decide_eq_false (by omega)
  have d2 : decide ((line.size : Int) < (at_ : Int)) = false := decide_eq_false (by omega)
  go_enter Try.func20, Try.ntmps20
  go_wp2_with fail
  refine HR.out.mono ?_
  rintro e w1 ⟨rfl, hI1, hf1⟩
  go_wp2_with fail
  refine bodyPost_ret (results_three rfl (RV.tmp rfl) (RV.tmp rfl) (RV.tmp rfl)) rfl ?_
  exact ⟨rfl, hI1, hf1⟩
set_option maxHeartbeats 4000000 in
theorem longestBad {b : Nat} {line : ByteArray} {w : World} (at_ : Int) (hat : at_ < 0 ∨ (line.size : Int) < at_) :
    Calls Try.prog 20 #[.pointer (some ⟨b, 0, none⟩), .string line, .int .i64 at_] w fun e w' => e = .returned (.tuple #[.int .i64 0, .bool false, .int .i64 1]) ∧ w = w' := by
  by_cases h1 : at_ < 0
  · have d1 : decide (at_ < 0) = true := decide_eq_true h1
    go_enter Try.func20, Try.ntmps20
    go_wp2_with fail
    refine bodyPost_ret (results_three rfl (RV.tmp rfl) (RV.tmp rfl) (RV.tmp rfl)) rfl ?_
    exact ⟨rfl, rfl⟩
  · have d1 : decide (at_ < 0) = false := decide_eq_false h1
    have d2 : decide ((line.size : Int) < at_) = true := decide_eq_true (by omega)
    go_enter Try.func20, Try.ntmps20
    go_wp2_with fail
    refine bodyPost_ret (results_three rfl (RV.tmp rfl) (RV.tmp rfl) (RV.tmp rfl)) rfl ?_
    exact ⟨rfl, rfl⟩
/-- The first place from which it matches: the end; how much has been done. -/
def findR (m : Mc) (line : List UInt8) (f : Nat) : Nat → Nat → Nat → Nat → Option (Option (Nat × Nat) × Nat × Nat)
  | 0, _, steps, kept => some (none, steps, kept)
  | n + 1, at_, steps, kept => match ranS m line f at_ steps kept with
    | none => none
    | some r => match r.best with
      | some e => some (some (at_, e), r.steps, r.kept)
      | none => findR m line f n (at_ + 1) r.steps r.kept
theorem run_bound {m : Mc} {L : List UInt8} : ∀ (f : Nat) (p : List Fr) (rn r : Rn), runS m L f p rn = some r → r.steps ≤ rn.steps + f ∧ r.kept ≤ max rn.kept (rn.seen.length + f)
  | f, [], rn, r, h => by
    have : rn = r := by cases f <;> (simp [runS] at h; exact h)
    subst this
    omega
  | 0, _ :: _, rn, r, h => by simp [runS] at h
  | f + 1, .leave k :: p, rn, r, h => by
    rw [runS] at h
    have ih := run_bound f p _ r h
    have := List.length_erase_le (a := k) (l := rn.seen)
    simp only at ih
    omega
  | f + 1, .look c :: p, rn, r, h => by
    rw [runS] at h
    split at h
    · have ih := run_bound f p _ r h
      simp only at ih
      omega
    · have ih := run_bound f _ _ r h
      simp only [List.length_cons] at ih
      split at ih <;> omega
theorem mulAux {a b K st B : Nat} (h : a ≤ b) (hs : st + b * K ≤ B) : st + a * K ≤ B := by have := Nat.mul_le_mul_right K h; omega
def spanV (o : Option (Nat × Nat)) : Value := match o with | some (x, y) => .agg #[.int .i64 x, .int .i64 y] | none => .agg #[.int .i64 0, .int .i64 0]
/-- Between two places. -/
def FI (w : World) (D : Nat → Prop) (b bS : Nat) (s : Stt) (m : Mc) (line : ByteArray) (f : Nat) (r : Option (Nat × Nat) × Nat × Nat) (i : Value) (wr : World) : Prop :=
  ∃ k st kp : Nat, i = .int .i64 k ∧ k ≤ line.size + 1 ∧ findR m line.toList f (line.size + 1 - k) k st kp = some r ∧ Idle wr D b s m st kp ∧ Frm (fun k => k = b) w wr ∧ Blk wr bS [.int .i64 0, .int .i64 0] 50 ∧ st + (line.size + 1 - k) * 100000000 ≤ 2305843009213693952 ∧ kp ≤ 2305843009213693952

set_option maxHeartbeats 8000000 in
theorem findB {b : Nat} {s : Stt} {m : Mc} {line : ByteArray} {steps kept : Nat} {D : Nat → Prop} {w : World} (at_ f : Nat) (r : Option (Nat × Nat) × Nat × Nat) (hW : MW m) (hI : Idle w D b s m steps kept) (hat : at_ ≤ line.size) (hls : line.size ≤ 900000) (hin : 0 < m.ins.length)
    (hr : findR m line.toList f (line.size + 1 - at_) at_ steps kept = some r) (hf : f ≤ 100000000) (hst : steps + (line.size + 1) * 100000000 ≤ 2305843009213693952) (hkp : kept ≤ 2305843009213693952) :
    Calls Try.prog 21 #[.pointer (some ⟨b, 0, none⟩), .string line, .int .i64 at_] w fun e w' => e = .returned (.tuple #[spanV r.1, .bool r.1.isSome, .int .i64 0]) ∧ Idle w' D b s m r.2.1 r.2.2 ∧ Frm (fun k => k = b) w w' := by
  have hIl := hI.low
  have hS0 := Blk.new w [.int .i64 0, .int .i64 0] 50
  have hf0 : Frm (fun _ => False) w (w.alloc (.cells #[.int .i64 0, .int .i64 0] 50)) := (Frm.refl _ _).alloc _
  have hlb : b < w.heap.size := by obtain ⟨sv, pv, l0, h⟩ := hI.obj; exact h.lt
  have hI0 := hIl.frm hf0 (fun h => h) (fun _ _ h => h)
  have d1 : decide ((at_ : Int) < 0) = false := decide_eq_false (by omega)
  have d2 : decide ((line.size : Int) < (at_ : Int)) = false := decide_eq_false (by omega)
  have d2n : decide (line.size < at_) = false := decide_eq_false (by omega)
  have HDW : Hid (∀ wx, Idle wx (fun k => D k ∧ k < w.heap.size) b s m r.2.1 r.2.2 → Frm (fun k => k = b) w wx → Idle wx D b s m r.2.1 r.2.2) := Lib.hid fun wx h hfx => ⟨h.obj, hI.sta.frm hfx (fun k hk e => hI.no (e ▸ hk)), hI.no⟩
  have hFI : FI w (fun k => D k ∧ k < w.heap.size) b w.heap.size s m line f r (.int .i64 at_) (w.alloc (.cells #[.int .i64 0, .int .i64 0] 50)) :=
    ⟨at_, steps, kept, rfl, by omega, hr, hI0, hf0.mono (fun _ h _ => h.elim), hS0, mulAux (by omega) hst, hkp⟩
  have HFI := Lib.hid hFI
  clear hI hIl hI0 hr hFI hf0
  go_enter Try.func21, Try.ntmps21
  go_upto_region 1 with fail
  generalize w.alloc (.cells #[.int .i64 0, .int .i64 0] 50) = w1 at *
  obtain ⟨bS, hbS⟩ : ∃ bS, w.heap.size = bS := ⟨_, rfl⟩
  simp only [hbS] at hS0 HFI HDW hlb ⊢
  have HBS := Lib.hid hbS
  clear hbS hS0
  go_wp2_with fail
  go_loopw [9] (fun i wr => FI w (fun k => D k ∧ k < bS) b bS s m line f r i wr) (fun i _ => line.size + 1 - (intOf i).toNat)
  case atStart => exact HFI.out
  case round =>
    clear HFI
    obtain ⟨k, st, kp, rfl, hk, hr, hI, hfr, hS, hst2, hkp2⟩ := hrel
    have hne : bS ≠ b := by omega
    by_cases hkl : k ≤ line.size
    · have d1 : decide ((k : Int) ≤ (line.size : Int)) = true := decide_eq_true (by omega)
      rw [show line.size + 1 - k = (line.size - k) + 1 by omega, findR] at hr
      cases hrun : ranS m line.toList f k st kp with
      | none => rw [hrun] at hr; cases hr
      | some r1 =>
        rw [hrun] at hr
        simp only at hr
        have hbd := run_bound f _ _ _ hrun
        simp only [List.length_nil, Nat.zero_add] at hbd
        have HR := Lib.hid (runI k f r1 hW hI hkl hls hin hrun hf (by omega) (by omega))
        have HRR := Lib.hid hr
        have hmul : (line.size + 1 - k) * 100000000 = (line.size - k) * 100000000 + 100000000 := by rw [show line.size + 1 - k = (line.size - k) + 1 by omega, Nat.succ_mul]
        rw [hmul] at hst2
        clear hrun hI hr hmul
        have hwk : IntKind.i64.wrap ((k : Int) + 1) = ((k + 1 : Nat) : Int) := by rw [IntWalk.i64_in _ (by omega)]; omega
        cases hbest : r1.best with
        | none =>
          rw [hbest] at HR HRR
          simp only [Option.getD_none, Option.isSome_none] at HR HRR
          clear hbest
          go_wp2_with fail
          refine HR.out.mono ?_
          rintro e w2 ⟨rfl, hI2, hf2⟩
          have HR2 : Hid (FI w (fun k => D k ∧ k < bS) b bS s m line f r (.int .i64 ((k + 1 : Nat) : Int)) w2) := Lib.hid ⟨k + 1, _, _, rfl, by omega, by rw [show line.size + 1 - (k + 1) = line.size - k by omega]; exact HRR.out, hI2, hfr.trans hf2, hS.frm hf2 hne, by rw [show line.size + 1 - (k + 1) = line.size - k by omega]; omega, by omega⟩
          clear hI2 hf2
          go_wp2_with fail
          go_roundw
          case measure => simp [intOf] <;> omega
          case rel => exact HR2.out
        | some e1 =>
          rw [hbest] at HR HRR
          simp only [Option.getD_some, Option.isSome_some] at HR HRR
          clear hbest
          go_wp2_with fail
          refine HR.out.mono ?_
          rintro e w2 ⟨rfl, hI2, hf2⟩
          have hS2 := hS.frm hf2 hne
          have c0 := hS2.cell 0
          have c1 := hS2.cell 1
          have f0 := hS2.frozen 0
          have f1 := hS2.frozen 1
          simp only [List.getElem?_cons_zero, List.getElem?_cons_succ] at c0 c1
          have ls := hS2.lt
          have HI2 := Lib.hid hI2
          have HF2 := Lib.hid (hfr.trans hf2)
          clear hI2 hf2 hS hfr
          go_wp2_with fail
          refine bodyPost_ret (results_three rfl (RV.cell rfl ((hS2.setSame 0 (.int .i64 k)).setSame 1 (.int .i64 e1)) Try.underlying50 rfl (by kernel_rfl)) (RV.tmp rfl) (RV.tmp rfl)) rfl ?_
          have hrr : r = (some (k, e1), r1.steps, r1.kept) := by have := HRR.out; injection this with this; exact this.symm
          have hbw := HBS.out
          have hfz := (HF2.out.set bS 0 (.int .i64 k) (fun h => by omega)).set bS 1 (.int .i64 e1) (fun h => by omega)
          refine ⟨by rw [hrr]; rfl, HDW.out _ ?_ hfz, hfz⟩
          rw [hrr]
          exact HI2.out.frm (S := fun k => k = bS) (((Frm.refl (fun k => k = bS) w2).set bS 0 _ (fun _ => rfl)).set bS 1 _ (fun _ => rfl)) (fun e => hne e.symm) (fun k h e => by have := h.2; omega)
    · obtain rfl : k = line.size + 1 := by omega
      have d1 : decide (((line.size + 1 : Nat) : Int) ≤ (line.size : Int)) = false := decide_eq_false (by omega)
      rw [Nat.sub_self, findR] at hr
      have HRR := Lib.hid hr
      have c0 := hS.cell 0
      have c1 := hS.cell 1
      have f0 := hS.frozen 0
      have f1 := hS.frozen 1
      simp only [List.getElem?_cons_zero, List.getElem?_cons_succ] at c0 c1
      have ls := hS.lt
      have HI2 := Lib.hid hI
      have HF2 := Lib.hid hfr
      clear hI hfr hr
      go_wp2_with fail
      refine bodyPost_ret (results_three rfl (RV.cell rfl ((hS.setSame 0 (.int .i64 0)).setSame 1 (.int .i64 0)) Try.underlying50 rfl (by kernel_rfl)) (RV.tmp rfl) (RV.tmp rfl)) rfl ?_
      have hrr : r = (none, st, kp) := by have := HRR.out; injection this with this; exact this.symm
      have hbw := HBS.out
      have hfz := (HF2.out.set bS 0 (.int .i64 0) (fun h => by omega)).set bS 1 (.int .i64 0) (fun h => by omega)
      refine ⟨by rw [hrr]; rfl, HDW.out _ ?_ hfz, hfz⟩
      rw [hrr]
      exact HI2.out.frm (S := fun k => k = bS) (((Frm.refl (fun k => k = bS) wr).set bS 0 _ (fun _ => rfl)).set bS 1 _ (fun _ => rfl)) (fun e => hne e.symm) (fun k h e => by have := h.2; omega)
end Go.Proofs.Ytoadmpochaeohaa
end
