/-
  Right: is a program right?
-/
import Derived.Test.YtoadmpochaeohaaNFine2
import Derived.Test.YtoadmpochaeohaaNFree
set_option linter.unusedVariables false
set_option linter.unusedSimpArgs false
set_option maxRecDepth 100000
namespace Go.Proofs.Ytoadmpochaeohaa
open Go.RowKit

def fineAt (gr co : Int) (l : List Ins) (k : Nat) : Bool := match l[k]? with | some i => fineB l.length gr co k i | none => true
def allFine (gr co : Int) (l : List Ins) (m : Nat) : Bool := (List.range m).all (fineAt gr co l)
/-- What is wrong with a program: 0: nothing. -/
def rightE (l : List Ins) (gr co : Int) : Int :=
  if 40000 < l.length then 42 else if gr < 0 ∨ 30 < gr ∨ co < 0 ∨ 40 < co then 1 else if l.length = 0 then 60 else if allFine gr co l l.length then 0 else 60

set_option maxHeartbeats 4000000 in
theorem rightC (A : Option Addr) (n cp : Nat) (gr co : Int) (fo : Bool) (ins : List Ins) (G : Nat → Prop) (w : World) (hrd : Rd w G 10 A n cp (flatI ins)) :
    Calls Try.prog 31 #[.agg #[.slice A n cp, .int .i64 gr, .int .i64 co, .bool fo]] w fun e w' => (∃ k : Int, e = .returned (.tuple #[.int .i64 (rightE ins gr co), .int .i64 k])) ∧ Frm (fun _ => False) w w' := by
  have hil : ins.length = n := by have := hrd.len; rw [flatI_len] at this; omega
  subst hil
  obtain ⟨r, hr⟩ : ∃ r, rightE ins gr co = r := ⟨_, rfl⟩
  rw [hr]
  have HR := Lib.hid hr
  clear hr
  have hf0 : Frm (fun _ => False) w (w.alloc (.cells #[.slice A ins.length cp, .int .i64 gr, .int .i64 co, .bool fo] 24)) := (Frm.refl _ w).alloc _
  have hP := Blk.new w [.slice A ins.length cp, .int .i64 gr, .int .i64 co, .bool fo] 24
  have p0 := hP.cell 0
  have p1 := hP.cell 1
  have p2 := hP.cell 2
  have p3 := hP.cell 3
  simp only [List.getElem?_cons_zero, List.getElem?_cons_succ] at p0 p1 p2 p3
  go_enter Try.func31, Try.ntmps31
  go_upto_region 1 with fail
  generalize w.alloc (.cells #[.slice A ins.length cp, .int .i64 gr, .int .i64 co, .bool fo] 24) = w1 at *
  generalize w.heap.size = bp at *
  generalize hn : ins.length = n at *
  have HN := Lib.hid hn
  clear hn
  by_cases h1 : 40000 < n
  · obtain rfl : 42 = r := by rw [← HR.out, rightE, HN.out, if_pos h1]
    have t1 : decide (40000 < (n : Int)) = true := decide_eq_true (by omega)
    go_wp2_with fail
    go_ret2
    exact ⟨⟨_, rfl⟩, hf0⟩
  · have t1 : decide (40000 < (n : Int)) = false := decide_eq_false (by omega)
    by_cases h2 : gr < 0
    · obtain rfl : 1 = r := by rw [← HR.out, rightE, HN.out, if_neg h1, if_pos (.inl h2)]
      have t2 : decide (gr < 0) = true := decide_eq_true h2
      go_wp2_with fail
      go_ret2
      exact ⟨⟨_, rfl⟩, hf0⟩
    · have t2 : decide (gr < 0) = false := decide_eq_false h2
      by_cases h3 : 30 < gr
      · obtain rfl : 1 = r := by rw [← HR.out, rightE, HN.out, if_neg h1, if_pos (.inr (.inl h3))]
        have t3 : decide (30 < gr) = true := decide_eq_true h3
        go_wp2_with fail
        go_ret2
        exact ⟨⟨_, rfl⟩, hf0⟩
      · have t3 : decide (30 < gr) = false := decide_eq_false h3
        by_cases h4 : co < 0
        · obtain rfl : 1 = r := by rw [← HR.out, rightE, HN.out, if_neg h1, if_pos (.inr (.inr (.inl h4)))]
          have t4 : decide (co < 0) = true := decide_eq_true h4
          go_wp2_with fail
          go_ret2
          exact ⟨⟨_, rfl⟩, hf0⟩
        · have t4 : decide (co < 0) = false := decide_eq_false h4
          by_cases h5 : 40 < co
          · obtain rfl : 1 = r := by rw [← HR.out, rightE, HN.out, if_neg h1, if_pos (.inr (.inr (.inr h5)))]
            have t5 : decide (40 < co) = true := decide_eq_true h5
            go_wp2_with fail
            go_ret2
            exact ⟨⟨_, rfl⟩, hf0⟩
          · have t5 : decide (40 < co) = false := decide_eq_false h5
            have hng : ¬ (gr < 0 ∨ 30 < gr ∨ co < 0 ∨ 40 < co) := by omega
            by_cases h6 : n = 0
            · obtain rfl : 60 = r := by rw [← HR.out, rightE, HN.out, if_neg h1, if_neg hng, if_pos h6]
              subst h6
              clear hng
              go_wp2_with fail
              go_ret2
              exact ⟨⟨_, rfl⟩, hf0⟩
            · have hr2 : (if allFine gr co ins n then (0 : Int) else 60) = r := by rw [← HR.out, rightE, HN.out, if_neg h1, if_neg hng, if_neg h6]
              have HR2 := Lib.hid hr2
              have t6 : ((n : Int) == 0) = false := by simp; omega
              have t6' : ¬ ((n : Int) = 0) := by omega
              clear hr2 HR hng
              go_wp2_with fail
              go_loopw [37] (fun i wr => ∃ (k : Nat), i = .int .i64 k ∧ k ≤ n ∧ Frm (fun _ => False) w1 wr ∧ Hid (allFine gr co ins k = true)) (fun i _ => n - (intOf i).toNat)
              case atStart => exact ⟨0, rfl, by omega, Frm.refl _ _, by rw [Hid]; rfl⟩
              case round =>
                obtain ⟨k, rfl, hk, hf, HA⟩ := hrel
                have hPr := hP.frm hf (fun h => h)
                have hff : Frm (fun _ => False) w wr := hf0.trans hf
                clear p0 p1 p2 p3
                have p0 := hPr.cell 0
                have p1 := hPr.cell 1
                have p2 := hPr.cell 2
                have p3 := hPr.cell 3
                simp only [List.getElem?_cons_zero, List.getElem?_cons_succ] at p0 p1 p2 p3
                have lp := hPr.lt
                by_cases hkn : k < n
                · obtain ⟨i, hi⟩ : ∃ i, ins[k]? = some i := ⟨_, List.getElem?_eq_getElem (by rw [HN.out]; exact hkn)⟩
                  have hfa : fineAt gr co ins k = fineB n gr co k i := by rw [fineAt, hi, HN.out]
                  have hsucc : allFine gr co ins (k + 1) = (allFine gr co ins k && fineB n gr co k i) := by rw [allFine, List.range_succ, List.all_append, ← allFine]; simp [hfa]
                  have HSU := Lib.hid hsucc
                  have HFC := Lib.hid (fineC A n cp gr co fo ins G k i wr (hrd.frm hff (fun _ _ h => h)) hi (by omega))
                  have hfn : fineB n gr co k i = false → allFine gr co ins n = false := fun h => by
                    rw [allFine, List.all_eq_false]
                    exact ⟨k, List.mem_range.2 hkn, by rw [hfa, h]; simp⟩
                  have HFN := Lib.hid hfn
                  clear hi hfa hsucc hfn
                  go_wp2_with fail
                  refine HFC.out.mono ?_
                  rintro e w3 ⟨rfl, hf3⟩
                  cases hb : fineB n gr co k i with
                  | false =>
                    have hr0 : (60 : Int) = r := by rw [← HR2.out, HFN.out hb]; rfl
                    subst hr0
                    clear hb
                    go_wp2_with fail
                    go_ret2
                    exact ⟨⟨_, rfl⟩, hff.trans hf3⟩
                  | true =>
                    have HB := Lib.hid hb
                    clear hb
                    go_wp2_with fail
                    go_roundw
                    case measure => simp [intOf] <;> omega
                    case rel => exact ⟨k + 1, by go_num, by omega, hf.trans hf3, by rw [Hid, HSU.out, HA.out, HB.out]; rfl⟩
                · obtain rfl : k = n := by omega
                  obtain rfl : (0 : Int) = r := by rw [← HR2.out, HA.out]; rfl
                  go_wp2_with fail
                  go_ret2
                  exact ⟨⟨_, rfl⟩, hff⟩
end Go.Proofs.Ytoadmpochaeohaa
