/-
  dredgelaw16's has: is there such an operation among a program's?
-/
import Derived.Test.YtamiliccnbkipaaNSpec
set_option linter.unusedVariables false
set_option linter.unusedSimpArgs false
namespace Go.Proofs.Ytamiliccnbkipaa
open Go.RowKit

def hasOp (l : List Ins) (op : Int) : Bool := l.any fun i => i.op == op

set_option maxHeartbeats 4000000 in
theorem hasOpC (A : Option Addr) (n cp : Nat) (gr co : Int) (fo : Bool) (ins : List Ins) (G : Nat → Prop) (op : Int) (w : World) (hrd : Rd w G 10 A n cp (flatI ins)) (hn : n ≤ 9223372036854775807) :
    Calls Try.prog 18 #[.agg #[.slice A n cp, .int .i64 gr, .int .i64 co, .bool fo], .int .i64 op] w fun e w' => e = .returned (.bool (hasOp ins op)) ∧ Frm (fun _ => False) w w' := by
  have hil : ins.length = n := by have := hrd.len; rw [flatI_len] at this; omega
  have HIL := Lib.hid hil
  clear hil
  have hf0 : Frm (fun _ => False) w (w.alloc (.cells #[.slice A n cp, .int .i64 gr, .int .i64 co, .bool fo] 24)) := (Frm.refl _ w).alloc _
  have hP := Blk.new w [.slice A n cp, .int .i64 gr, .int .i64 co, .bool fo] 24
  have p0 := hP.cell 0
  simp only [List.getElem?_cons_zero, List.getElem?_cons_succ] at p0
  go_enter Try.func18, Try.ntmps18
  go_upto_region 1 with fail
  generalize w.alloc (.cells #[.slice A n cp, .int .i64 gr, .int .i64 co, .bool fo] 24) = w1 at *
  generalize w.heap.size = bp at *
  go_wp2_with fail
  go_loopw [5] (fun i wr => ∃ (k : Nat), i = .int .i64 k ∧ k ≤ n ∧ wr = w1 ∧ Hid ((ins.take k).any (fun i => i.op == op) = false)) (fun i _ => n - (intOf i).toNat)
  case atStart => exact ⟨0, rfl, by omega, rfl, by rw [Hid]; rfl⟩
  case round =>
    obtain ⟨k, rfl, hk, rfl, HA⟩ := hrel
    by_cases hkn : k < n
    · obtain ⟨i, hi⟩ : ∃ i, ins[k]? = some i := ⟨_, List.getElem?_eq_getElem (by rw [HIL.out]; exact hkn)⟩
      obtain ⟨b, off, rfl, hb, hci⟩ := (hrd.frm hf0 (fun _ _ h => h)).ins k i hi
      have e0 := hci 0 _ rfl
      rw [Nat.add_zero] at e0
      have HTK := Lib.hid (show ins.take (k + 1) = ins.take k ++ [i] by rw [List.take_add_one, hi]; rfl)
      have HII := Lib.hid hi
      clear hci hi
      by_cases ho : i.op = op
      · have HNO := Lib.hid (show hasOp ins op = true from List.any_eq_true.2 ⟨i, List.mem_of_getElem? HII.out, by simp [ho]⟩)
        have t1 : (i.op == op) = true := by simp [ho]
        clear ho
        go_wp2_with fail
        go_ret
        exact ⟨by rw [HNO.out]; rfl, hf0⟩
      · have t1 : (i.op == op) = false := by simpa using ho
        have HT := Lib.hid t1
        go_wp2_with fail
        go_roundw
        case measure => simp [intOf] <;> omega
        case rel => exact ⟨k + 1, by go_num, by omega, by first | trivial | rfl, by rw [Hid, HTK.out, List.any_append, HA.out]; simp [ho]⟩
    · obtain rfl : k = n := by omega
      have HALL := Lib.hid (show hasOp ins op = false by have := HA.out; rw [List.take_of_length_le (by rw [HIL.out]; exact Nat.le_refl _)] at this; exact this)
      go_wp2_with fail
      go_ret
      exact ⟨by rw [HALL.out]; rfl, hf0⟩
end Go.Proofs.Ytamiliccnbkipaa
