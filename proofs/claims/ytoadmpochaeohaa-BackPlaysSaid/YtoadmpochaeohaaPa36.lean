/-
  Layer 20: tame, walked: what it answers is that the ways are few, where it says so.
-/
import Derived.Test.YtoadmpochaeohaaPa35
import Derived.Test.YtoadmpochaeohaaPa33
section
set_option linter.unusedVariables false
set_option linter.unusedSimpArgs false
set_option maxRecDepth 100000
namespace Go.Proofs.Ytoadmpochaeohaa
open Go.RowKit

/-- Where tame says yes, the ways from every place are few (asked for plain, and for Find). -/
def tameOk (ins : List Ins) (fo : Bool) (L : List UInt8) (gr co at_ : Nat) : Prop := ∀ a, at_ ≤ a → a ≤ L.length → manyR ins fo L gr co 2000 a ≤ 2000
def TmPost (w : World) (ins : List Ins) (fo : Bool) (L : List UInt8) (gr co at_ : Nat) (e : Ending) (w' : World) : Prop := (e = .returned (.bool false) ∨ (e = .returned (.bool true) ∧ tameOk ins fo L gr co at_)) ∧ Frm (fun _ => False) w w'
set_option maxHeartbeats 8000000 in
theorem tameC (A : Option Addr) (n cp gr co : Nat) (fo : Bool) (ins : List Ins) (line : ByteArray) (at0 : Nat) (G : Nat → Prop) (w : World) (hrd : Rd w G 10 A n cp (flatI ins)) (hr : rightE ins gr co = 0) (hok : ∀ i ∈ ins, i.ok) (hat : at0 ≤ line.size + 1) (hN : line.size ≤ 100000) :
    Calls Try.prog 17 #[.agg #[.slice A n cp, .int .i64 gr, .int .i64 co, .bool fo], .bool true, .agg #[.string line, .int .i64 at0, .bool true]] w (TmPost w ins fo line.toList gr co at0) := by
  obtain ⟨PO, hPO⟩ : ∃ PO, TmPost w ins fo line.toList gr co at0 = PO := ⟨_, rfl⟩
  rw [hPO]
  have HPO := Lib.hid hPO
  have HR := Lib.hid (⟨hr, hok⟩ : _ ∧ _)
  have hlb : line.toList.length = line.size := by rw [ByteArray.toList_eq]; simp
  have HLB := Lib.hid hlb
  obtain ⟨hP, hQ, hf0⟩ := twoT w [.slice A n cp, .int .i64 gr, .int .i64 co, .bool fo] [.string line, .int .i64 at0, .bool true] 24 41
  have hrd1 := hrd.low.frm hf0 (fun _ _ h => h)
  clear hPO hr hok hrd hlb
  go_enter Try.func17, Try.ntmps17
  go_upto_region 1 with fail
  generalize (w.alloc (.cells #[.slice A n cp, .int .i64 gr, .int .i64 co, .bool fo] 24)).alloc (.cells #[.string line, .int .i64 at0, .bool true] 41) = w1 at *
  obtain ⟨bP, hbP⟩ : ∃ b, w.heap.size = b := ⟨_, rfl⟩
  obtain ⟨bQ, hbQ⟩ : ∃ b, w.heap.size + 1 = b := ⟨_, rfl⟩
  simp only [hbQ] at hQ ⊢
  simp only [hbP] at hP hrd1 ⊢
  have HBP := Lib.hid (⟨hbP, hbQ⟩ : _ ∧ _)
  clear hbP hbQ
  have q1 := hQ.cell 1
  simp only [List.getElem?_cons_zero, List.getElem?_cons_succ] at q1
  have lq := hQ.lt
  have HM := Lib.hid (⟨hP, hQ, hrd1, hf0⟩ : _ ∧ _ ∧ _ ∧ _)
  clear hP hQ hrd1 hf0
  go_wp2_with fail
  clear q1 lq
  go_loopw [7] (fun i wr => ∃ a : Nat, i = .int .i64 a ∧ at0 ≤ a ∧ a ≤ line.size + 1 ∧ Hid (∀ b, at0 ≤ b → b < a → manyR ins fo line.toList gr co 2000 b ≤ 2000) ∧ Frm (fun _ => False) w1 wr) (fun i _ => line.size + 1 - (intOf i).toNat)
  case atStart => exact ⟨at0, rfl, Nat.le_refl _, hat, Lib.hid (fun b h1 h2 => by omega), Frm.refl _ _⟩
  case round =>
    obtain ⟨a, rfl, ha0, ha1, hfew, hfr⟩ := hrel
    have hP := HM.out.1.frm hfr (fun h => h)
    have hQ := HM.out.2.1.frm hfr (fun h => h)
    have hRd := HM.out.2.2.1.frm hfr (fun _ _ h => h)
    have hff := HM.out.2.2.2.trans hfr
    obtain ⟨x0, x1, x2, x3, y0, y1, y2, y3, lx⟩ := blk4 hP
    have q0 := hQ.cell 0
    have q2 := hQ.cell 2
    simp only [List.getElem?_cons_zero, List.getElem?_cons_succ] at q0 q2
    have lq := hQ.lt
    by_cases hal : a ≤ line.size
    · have d1 : decide ((a : Int) ≤ (line.size : Int)) = true := decide_eq_true (by omega)
      have d1n : decide (a ≤ line.size) = true := decide_eq_true hal
      have HNP := Lib.hid (newPC A n cp gr co fo ins line _ wr hRd HR.out.1)
      go_wp2_with fail
      refine HNP.out.mono ?_
      rintro e w2 ⟨bX, bR, rfl, hPl, hbX, hbR, hf2⟩
      have hXR : bX ≠ bR := hPl.obj.ne hPl.refs (by decide)
      have HFC := Lib.hid (fromC bX bR A n cp gr co fo ins line a 4000 _ _ _ w2 hPl HR.out.1 HR.out.2 hal hN (by omega) (fun h => by have := h.2; omega) hXR)
      have hPl2 := hP.frm hf2 (fun h => h)
      clear x0 x1 x2 x3 y0 y1 y2 y3 lx q0 q2 lq HNP
      go_wp2_with fail
      refine HFC.out.mono ?_
      rintro e w3 ⟨⟨v, ok, rfl⟩, hf3⟩
      have hfw : Frm (fun _ => False) wr w3 := hf2.then hf3 (fun q hq hl => by have h2 : q = bX := hq; omega)
      have hP3 := hP.frm hfw (fun h => h)
      have hQ3 := hQ.frm hfw (fun h => h)
      have hRd3 := hRd.frm hfw (fun _ _ h => h)
      have hff3 := hff.trans hfw
      have hfr3 := hfr.trans hfw
      clear hP hQ hRd hff hfr hf2 hf3 HFC hPl hPl2 hfw
      cases ok with
      | false =>
        go_wp2_with fail
        rw [← HPO.out]
        exact ⟨.inl rfl, hff3⟩
      | true =>
        obtain ⟨x0, x1, x2, x3, y0, y1, y2, y3, lx⟩ := blk4 hP3
        have q0 := hQ3.cell 0
        have q2 := hQ3.cell 2
        simp only [List.getElem?_cons_zero, List.getElem?_cons_succ] at q0 q2
        have lq := hQ3.lt
        have HFW := Lib.hid (fewC A n cp gr co fo ins line a 2000 _ w3 hRd3 HR.out.1 HR.out.2 hal (by omega) (by omega))
        obtain ⟨fw, hfw⟩ : ∃ fw, decide (manyR ins fo line.toList gr co 2000 a ≤ 2000) = fw := ⟨_, rfl⟩
        rw [hfw] at HFW
        have HFD := Lib.hid hfw
        clear hfw
        go_wp2_with fail
        refine HFW.out.mono ?_
        rintro e w4 ⟨rfl, hf34⟩
        have hQ4 := hQ3.frm hf34 (fun h => h)
        have hff4 := hff3.trans hf34
        have hfr4 := hfr3.trans hf34
        clear x0 x1 x2 x3 y0 y1 y2 y3 lx q0 q2 lq HFW hP3 hQ3 hRd3 hff3 hfr3 hf34
        have q0 := hQ4.cell 0
        have q2 := hQ4.cell 2
        simp only [List.getElem?_cons_zero, List.getElem?_cons_succ] at q0 q2
        have lq := hQ4.lt
        cases fw with
        | false =>
          go_wp2_with fail
          rw [← HPO.out]
          exact ⟨.inl rfl, hff4⟩
        | true =>
          have hwk : IntKind.i64.wrap ((a : Int) + 1) = ((a + 1 : Nat) : Int) := by rw [IntWalk.i64_in _ (by omega)]; omega
          have hfew2 : Hid (∀ b, at0 ≤ b → b < a + 1 → manyR ins fo line.toList gr co 2000 b ≤ 2000) := Lib.hid fun b h1 h2 => by
            by_cases e : b = a
            · subst e; exact of_decide_eq_true HFD.out
            · exact hfew.out b h1 (by omega)
          clear hff4
          go_wp2_with fail
          go_roundw
          case measure => simp [intOf] <;> omega
          case rel => exact ⟨a + 1, by go_num, by omega, by omega, hfew2, hfr4⟩
    · obtain rfl : a = line.size + 1 := by omega
      have d1 : decide (((line.size + 1 : Nat) : Int) ≤ (line.size : Int)) = false := decide_eq_false (by omega)
      have HT : Hid (tameOk ins fo line.toList gr co at0) := Lib.hid fun b h1 h2 => hfew.out b h1 (by have := HLB.out; omega)
      clear hP hQ hRd hfr hal
      go_wp2_with fail
      rw [← HPO.out]
      exact ⟨.inr ⟨rfl, HT.out⟩, hff⟩
end Go.Proofs.Ytoadmpochaeohaa
end

section
set_option linter.unusedVariables false
set_option linter.unusedSimpArgs false
set_option maxRecDepth 100000
namespace Go.Proofs.Ytoadmpochaeohaa
open Go.RowKit

/-- The least place from which there is an answer, of so many. -/
def firstO (o : Nat → Option Nat) : Nat → Nat → Option (Nat × Nat)
  | 0, _ => none
  | n + 1, a => match o a with | some e => some (a, e) | none => firstO o n (a + 1)
theorem find_few {m : Mc} {L : List UInt8} {o : Nat → Option Nat} : ∀ (n a st kp : Nat), (∀ b, a ≤ b → b < a + n → ∀ st kp, ∃ r, ranS m L 5000 b st kp = some r ∧ r.best = o b) →
    ∃ s k, findR m L 5000 n a st kp = some (firstO o n a, s, k) ∧ s ≤ st + n * 5000 ∧ k ≤ max kp 5000
  | 0, a, st, kp, _ => ⟨st, kp, rfl, by omega, by omega⟩
  | n + 1, a, st, kp, h => by
    obtain ⟨r, h1, h2⟩ := h a (Nat.le_refl _) (by omega) st kp
    have hbd := run_bound _ _ _ _ h1
    simp only [List.length_nil, Nat.zero_add] at hbd
    rw [findR, h1, firstO]
    simp only
    rw [h2]
    cases ho : o a with
    | some e => exact ⟨r.steps, r.kept, rfl, by omega, by omega⟩
    | none =>
      obtain ⟨s, k, q1, q2, q3⟩ := find_few n (a + 1) r.steps r.kept (fun b hb1 hb2 => h b (by omega) (by omega))
      exact ⟨s, k, q1, by omega, by omega⟩
/-- Alike: what two machines answer from every place of a line, where tame says yes. -/
theorem tame_best {ins : List Ins} {gr co : Nat} {fo : Bool} {L : List UInt8} (hr : rightE ins gr co = 0) (hN : L.length ≤ 100000) (ht : tameOk ins fo L gr co 0)
    (t0 : Nat) (h0 : sweepM ins (slotN ins gr) (nsN ins gr) ins.length (iterM (sweepM ins (slotN ins gr) (nsN ins gr) ins.length) t0 (live0 ins.length (nsN ins gr))) = iterM (sweepM ins (slotN ins gr) (nsN ins gr) ins.length) t0 (live0 ins.length (nsN ins gr))) :
    ∃ o : Nat → Option Nat, ∀ (pl : Bool) (t : Nat), sweepM ins (slotN ins gr) (nsN ins gr) ins.length (iterM (sweepM ins (slotN ins gr) (nsN ins gr) ins.length) t (live0 ins.length (nsN ins gr))) = iterM (sweepM ins (slotN ins gr) (nsN ins gr) ins.length) t (live0 ins.length (nsN ins gr)) →
      ∀ a, a ≤ L.length → ∀ st kp, ∃ r, ranS (mOf ins gr co fo pl t) L 5000 a st kp = some r ∧ r.best = o a := by
  have key : ∀ a, ∃ oa : Option Nat, a ≤ L.length → ∀ (pl : Bool) (t st kp : Nat), sweepM ins (slotN ins gr) (nsN ins gr) ins.length (iterM (sweepM ins (slotN ins gr) (nsN ins gr) ins.length) t (live0 ins.length (nsN ins gr))) = iterM (sweepM ins (slotN ins gr) (nsN ins gr) ins.length) t (live0 ins.length (nsN ins gr)) →
      ∃ r, ranS (mOf ins gr co fo pl t) L 5000 a st kp = some r ∧ r.best = oa := fun a => by
    by_cases ha : a ≤ L.length
    · obtain ⟨oa, hoa⟩ := few_best (fo := fo) hr hN ha (ht a (Nat.zero_le _) ha) t0 h0
      exact ⟨oa, fun _ => hoa⟩
    · exact ⟨none, fun h => absurd h ha⟩
  refine ⟨fun a => (Classical.choose (key a)), fun pl t hst a ha st kp => ?_⟩
  exact (Classical.choose_spec (key a)) ha pl t st kp hst
end Go.Proofs.Ytoadmpochaeohaa
end
