/-
  Reference 14: Right, Free; what a search is refused for; the steps that are let.
-/
import Derived.Test.YtoadmpochaeohaaRFine
import Derived.Test.YtoadmpochaeohaaNBegin
set_option linter.unusedVariables false
set_option linter.unusedSimpArgs false
set_option maxRecDepth 100000
namespace Go.Proofs.Ytoadmpochaeohaa
open Go.RowKit

set_option maxHeartbeats 4000000 in
theorem refRight (A : Option Addr) (n cp : Nat) (gr co : Int) (fo : Bool) (ins : List Ins) (G : Nat → Prop) (w : World) (hrd : Rd w G 10 A n cp (flatI ins)) :
    Calls Try.prog 13 #[.agg #[.slice A n cp, .int .i64 gr, .int .i64 co, .bool fo]] w fun e w' => (∃ k : Int, e = .returned (.tuple #[.int .i64 (rightE ins gr co), .int .i64 k])) ∧ Frm (fun _ => False) w w' := by
  have hil : ins.length = n := by have := hrd.len; rw [flatI_len] at this; omega
  subst hil
  obtain ⟨r, hr⟩ : ∃ r, rightE ins gr co = r := ⟨_, rfl⟩
  rw [hr]
  have HR := Lib.hid hr
  clear hr
  have hf0 : Frm (fun _ => False) w (w.alloc (.cells #[.slice A ins.length cp, .int .i64 gr, .int .i64 co, .bool fo] 24)) := (Frm.refl _ w).alloc _
  have hP := Blk.new w [.slice A ins.length cp, .int .i64 gr, .int .i64 co, .bool fo] 24
  have p0 := hP.cell 0
  have p1 := hP.cell 1
  have p2 := hP.cell 2
  have p3 := hP.cell 3
  simp only [List.getElem?_cons_zero, List.getElem?_cons_succ] at p0 p1 p2 p3
  go_enter Try.func13, Try.ntmps13
  go_upto_region 1 with fail
  generalize w.alloc (.cells #[.slice A ins.length cp, .int .i64 gr, .int .i64 co, .bool fo] 24) = w1 at *
  generalize w.heap.size = bp at *
  have hlp := hP.lt
  generalize hn : ins.length = n at *
  have HN := Lib.hid hn
  clear hn
  by_cases h1 : 40000 < n
  · obtain rfl : 42 = r := by rw [← HR.out, rightE, HN.out, if_pos h1]
    have t1 : decide (40000 < (n : Int)) = true := decide_eq_true (by omega)
    go_wp2_with fail
    go_ret2
    exact ⟨⟨_, rfl⟩, hf0⟩
  · have t1 : decide (40000 < (n : Int)) = false := decide_eq_false (by omega)
    by_cases h2 : gr < 0
    · obtain rfl : 1 = r := by rw [← HR.out, rightE, HN.out, if_neg h1, if_pos (.inl h2)]
      have t2 : decide (gr < 0) = true := decide_eq_true h2
      go_wp2_with fail
      go_ret2
      exact ⟨⟨_, rfl⟩, hf0⟩
    · have t2 : decide (gr < 0) = false := decide_eq_false h2
      by_cases h3 : 30 < gr
      · obtain rfl : 1 = r := by rw [← HR.out, rightE, HN.out, if_neg h1, if_pos (.inr (.inl h3))]
        have t3 : decide (30 < gr) = true := decide_eq_true h3
        go_wp2_with fail
        go_ret2
        exact ⟨⟨_, rfl⟩, hf0⟩
      · have t3 : decide (30 < gr) = false := decide_eq_false h3
        by_cases h4 : co < 0
        · obtain rfl : 1 = r := by rw [← HR.out, rightE, HN.out, if_neg h1, if_pos (.inr (.inr (.inl h4)))]
          have t4 : decide (co < 0) = true := decide_eq_true h4
          go_wp2_with fail
          go_ret2
          exact ⟨⟨_, rfl⟩, hf0⟩
        · have t4 : decide (co < 0) = false := decide_eq_false h4
          by_cases h5 : 40 < co
          · obtain rfl : 1 = r := by rw [← HR.out, rightE, HN.out, if_neg h1, if_pos (.inr (.inr (.inr h5)))]
            have t5 : decide (40 < co) = true := decide_eq_true h5
            go_wp2_with fail
            go_ret2
            exact ⟨⟨_, rfl⟩, hf0⟩
          · have t5 : decide (40 < co) = false := decide_eq_false h5
            have hng : ¬ (gr < 0 ∨ 30 < gr ∨ co < 0 ∨ 40 < co) := by omega
            have hr2 : (if n = 0 then 60 else if allFine gr co ins n then (0 : Int) else 60) = r := by rw [← HR.out, rightE, HN.out, if_neg h1, if_neg hng]
            have HR2 := Lib.hid hr2
            clear hr2 HR hng
            go_wp2_with fail
            go_loopw [4] (fun i wr => ∃ (k : Nat), i = .int .i64 k ∧ k ≤ n ∧ Frm (fun _ => False) w1 wr ∧ Hid (allFine gr co ins k = true)) (fun i _ => n - (intOf i).toNat)
            case atStart => exact ⟨0, rfl, by omega, Frm.refl _ _, by rw [Hid]; rfl⟩
            case round =>
              obtain ⟨k, rfl, hk, hf, HA⟩ := hrel
              have hPr := hP.frm hf (fun h => h)
              have hff : Frm (fun _ => False) w wr := hf0.trans hf
              clear p0 p1 p2 p3
              have p0 := hPr.cell 0
              have p1 := hPr.cell 1
              have p2 := hPr.cell 2
              have p3 := hPr.cell 3
              simp only [List.getElem?_cons_zero, List.getElem?_cons_succ] at p0 p1 p2 p3
              have lp := hPr.lt
              by_cases hkn : k < n
              · obtain ⟨i, hi⟩ : ∃ i, ins[k]? = some i := ⟨_, List.getElem?_eq_getElem (by rw [HN.out]; exact hkn)⟩
                have hfa : fineAt gr co ins k = fineB n gr co k i := by rw [fineAt, hi, HN.out]
                have hsucc : allFine gr co ins (k + 1) = (allFine gr co ins k && fineB n gr co k i) := by rw [allFine, List.range_succ, List.all_append, ← allFine]; simp [hfa]
                have HSU := Lib.hid hsucc
                have HFC := Lib.hid (refFine A n cp gr co fo ins G k i wr (hrd.frm hff (fun _ _ h => h)) hi (by omega))
                have hfn : fineB n gr co k i = false → allFine gr co ins n = false := fun h => by
                  rw [allFine, List.all_eq_false]
                  exact ⟨k, List.mem_range.2 hkn, by rw [hfa, h]; simp⟩
                have HFN := Lib.hid hfn
                clear hi hfa hsucc hfn
                go_wp2_with fail
                refine HFC.out.mono ?_
                rintro e w3 ⟨rfl, hf3⟩
                cases hb : fineB n gr co k i with
                | false =>
                  have hr0 : (60 : Int) = r := by rw [← HR2.out, HFN.out hb, if_neg (by omega)]; rfl
                  subst hr0
                  clear hb
                  go_wp2_with fail
                  go_ret2
                  exact ⟨⟨_, rfl⟩, hff.trans hf3⟩
                | true =>
                  have HB := Lib.hid hb
                  clear hb
                  go_wp2_with fail
                  go_roundw
                  case measure => simp [intOf] <;> omega
                  case rel => exact ⟨k + 1, by go_num, by omega, hf.trans hf3, by rw [Hid, HSU.out, HA.out, HB.out]; rfl⟩
              · obtain rfl : k = n := by omega
                by_cases h6 : k = 0
                · obtain rfl : (60 : Int) = r := by rw [← HR2.out, if_pos h6]
                  subst h6
                  go_wp2_with fail
                  go_ret2
                  exact ⟨⟨_, rfl⟩, hff⟩
                · obtain rfl : (0 : Int) = r := by rw [← HR2.out, HA.out, if_neg h6]; rfl
                  have t6 : ((k : Int) == 0) = false := by simp; omega
                  have t6' : ¬ ((k : Int) = 0) := by omega
                  go_wp2_with fail
                  go_ret2
                  exact ⟨⟨_, rfl⟩, hff⟩
set_option maxHeartbeats 4000000 in
theorem refFree (A : Option Addr) (n cp : Nat) (gr co : Int) (fo : Bool) (ins : List Ins) (G : Nat → Prop) (w : World) (hrd : Rd w G 10 A n cp (flatI ins)) (hn : n ≤ 40000) :
    Calls Try.prog 27 #[.agg #[.slice A n cp, .int .i64 gr, .int .i64 co, .bool fo]] w fun e w' => e = .returned (.bool (freeB ins)) ∧ Frm (fun _ => False) w w' := by
  have hil : ins.length = n := by have := hrd.len; rw [flatI_len] at this; omega
  have HIL := Lib.hid hil
  clear hil
  have hf0 : Frm (fun _ => False) w (w.alloc (.cells #[.slice A n cp, .int .i64 gr, .int .i64 co, .bool fo] 24)) := (Frm.refl _ w).alloc _
  have hP := Blk.new w [.slice A n cp, .int .i64 gr, .int .i64 co, .bool fo] 24
  have p0 := hP.cell 0
  simp only [List.getElem?_cons_zero, List.getElem?_cons_succ] at p0
  go_enter Try.func27, Try.ntmps27
  go_upto_region 1 with fail
  generalize w.alloc (.cells #[.slice A n cp, .int .i64 gr, .int .i64 co, .bool fo] 24) = w1 at *
  generalize hbp : w.heap.size = bp at *
  go_wp2_with fail
  go_loopw [3] (fun i wr => ∃ (k : Nat), i = .int .i64 k ∧ k ≤ n ∧ Frm (fun _ => False) w wr ∧ Blk wr bp [.slice A n cp, .int .i64 gr, .int .i64 co, .bool fo] 24 ∧ Hid ((ins.take k).all freeI = true)) (fun i _ => n - (intOf i).toNat)
  case atStart => exact ⟨0, rfl, by omega, hf0, hP, by rw [Hid]; rfl⟩
  case round =>
    obtain ⟨k, rfl, hk, hf, hPr, HA⟩ := hrel
    clear p0
    have p0 := hPr.cell 0
    simp only [List.getElem?_cons_zero] at p0
    have lp := hPr.lt
    by_cases hkn : k < n
    · obtain ⟨i, hi⟩ : ∃ i, ins[k]? = some i := ⟨_, List.getElem?_eq_getElem (by rw [HIL.out]; exact hkn)⟩
      obtain ⟨b, off, rfl, hb, hci⟩ := (hrd.frm hf (fun _ _ h => h)).ins k i hi
      have e0 := hci 0 _ rfl
      have e1 := hci 1 _ rfl
      have e2 := hci 2 _ rfl
      have e3 := hci 3 _ rfl
      have e4 := hci 4 _ rfl
      have e5 := hci 5 _ rfl
      have e6 := hci 6 _ rfl
      have e7 := hci 7 _ rfl
      have e8 := hci 8 _ rfl
      have e9 := hci 9 _ rfl
      rw [Nat.add_zero] at e0
      have htk : ins.take (k + 1) = ins.take k ++ [i] := by rw [List.take_add_one, hi]; rfl
      have HTK := Lib.hid htk
      have HII := Lib.hid hi
      clear hci hi htk
      obtain ⟨iop, ix, iy, i_n, imn, imx, is0, is1, is2, is3⟩ := i
      simp only at e0 e1 e2 e3 e4 e5 e6 e7 e8 e9
      have hf2 := hf
      by_cases h8 : iop = 8 ∨ iop = 9 ∨ iop = 10
      · have hno : freeB ins = false := by
          rw [freeB, List.all_eq_false]
          exact ⟨_, List.mem_of_getElem? HII.out, by rcases h8 with rfl | rfl | rfl <;> simp [freeI]⟩
        have HNO := Lib.hid hno
        clear hno
        rcases h8 with rfl | rfl | rfl
        all_goals
          go_wp2_with fail
          go_ret
          exact ⟨by rw [HNO.out]; rfl, hf2⟩
      · have t8 : (iop == 8) = false := by simp; omega
        have t9 : (iop == 9) = false := by simp; omega
        have t10 : (iop == 10) = false := by simp; omega
        have H8 := Lib.hid h8
        clear h8
        go_wp2_with fail
        go_roundw
        case measure => simp [intOf] <;> omega
        case rel =>
          refine ⟨k + 1, by go_num, by omega, hf2, hPr, ?_⟩
          have := H8.out
          rw [Hid, HTK.out, List.all_append, HA.out]
          simp [freeI]
          omega
    · obtain rfl : k = n := by omega
      have hall : freeB ins = true := by have := HA.out; rw [List.take_of_length_le (by rw [HIL.out]; exact Nat.le_refl _)] at this; exact this
      have HALL := Lib.hid hall
      clear hall
      go_wp2_with fail
      go_ret
      exact ⟨by rw [HALL.out]; rfl, hf⟩
end Go.Proofs.Ytoadmpochaeohaa
