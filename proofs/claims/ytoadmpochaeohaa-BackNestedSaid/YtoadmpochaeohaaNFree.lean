/-
  Free: has a program no backreference and no counter?
-/
import Derived.Test.YtoadmpochaeohaaNRight
set_option linter.unusedVariables false
set_option linter.unusedSimpArgs false
set_option maxRecDepth 100000
namespace Go.Proofs.Ytoadmpochaeohaa
open Go.RowKit

def freeI (i : Ins) : Bool := !(i.op == 8 || (i.op == 9 || i.op == 10))
def freeB (l : List Ins) : Bool := l.all freeI

set_option maxHeartbeats 4000000 in
theorem freeC (A : Option Addr) (n cp : Nat) (gr co : Int) (fo : Bool) (ins : List Ins) (G : Nat → Prop) (w : World) (hrd : Rd w G 10 A n cp (flatI ins)) (hn : n ≤ 40000) :
    Calls Try.prog 57 #[.agg #[.slice A n cp, .int .i64 gr, .int .i64 co, .bool fo]] w fun e w' => e = .returned (.bool (freeB ins)) ∧ Frm (fun _ => False) w w' := by
  have hil : ins.length = n := by have := hrd.len; rw [flatI_len] at this; omega
  have HIL := Lib.hid hil
  clear hil
  have hf0 : Frm (fun _ => False) w (w.alloc (.cells #[.slice A n cp, .int .i64 gr, .int .i64 co, .bool fo] 24)) := (Frm.refl _ w).alloc _
  have hP := Blk.new w [.slice A n cp, .int .i64 gr, .int .i64 co, .bool fo] 24
  have p0 := hP.cell 0
  simp only [List.getElem?_cons_zero, List.getElem?_cons_succ] at p0
  go_enter Try.func57, Try.ntmps57
  go_upto_region 1 with fail
  generalize w.alloc (.cells #[.slice A n cp, .int .i64 gr, .int .i64 co, .bool fo] 24) = w1 at *
  generalize w.heap.size = bp at *
  go_wp2_with fail
  go_loopw [8] (fun i wr => ∃ (k : Nat), i = .int .i64 k ∧ k ≤ n ∧ Frm (fun _ => False) w wr ∧ Hid ((ins.take k).all freeI = true)) (fun i _ => n - (intOf i).toNat)
  case atStart => exact ⟨0, rfl, by omega, hf0, by rw [Hid]; rfl⟩
  case round =>
    obtain ⟨k, rfl, hk, hf, HA⟩ := hrel
    by_cases hkn : k < n
    · obtain ⟨i, hi⟩ : ∃ i, ins[k]? = some i := ⟨_, List.getElem?_eq_getElem (by rw [HIL.out]; exact hkn)⟩
      obtain ⟨b, off, rfl, hb, hci⟩ := (hrd.frm hf (fun _ _ h => h)).ins k i hi
      have e0 := hci 0 _ rfl
      have e1 := hci 1 _ rfl
      have e2 := hci 2 _ rfl
      have e3 := hci 3 _ rfl
      have e4 := hci 4 _ rfl
      have e5 := hci 5 _ rfl
      have e6 := hci 6 _ rfl
      have e7 := hci 7 _ rfl
      have e8 := hci 8 _ rfl
      have e9 := hci 9 _ rfl
      rw [Nat.add_zero] at e0
      have htk : ins.take (k + 1) = ins.take k ++ [i] := by rw [List.take_add_one, hi]; rfl
      have HTK := Lib.hid htk
      have HII := Lib.hid hi
      clear hci hi htk
      obtain ⟨iop, ix, iy, i_n, imn, imx, is0, is1, is2, is3⟩ := i
      simp only at e0 e1 e2 e3 e4 e5 e6 e7 e8 e9
      have hf2 := hf.alloc (.cells #[.int .i64 iop, .int .i64 ix, .int .i64 iy, .int .i64 i_n, .int .i64 imn, .int .i64 imx, .int .u64 is0, .int .u64 is1, .int .u64 is2, .int .u64 is3] 39)
      by_cases h8 : iop = 8 ∨ iop = 9 ∨ iop = 10
      · have hno : freeB ins = false := by
          rw [freeB, List.all_eq_false]
          exact ⟨_, List.mem_of_getElem? HII.out, by rcases h8 with rfl | rfl | rfl <;> simp [freeI]⟩
        have HNO := Lib.hid hno
        clear hno
        rcases h8 with rfl | rfl | rfl
        all_goals
          go_wp2_with fail
          go_ret
          exact ⟨by rw [HNO.out]; rfl, hf2⟩
      · have t8 : (iop == 8) = false := by simp; omega
        have t9 : (iop == 9) = false := by simp; omega
        have t10 : (iop == 10) = false := by simp; omega
        have H8 := Lib.hid h8
        clear h8
        go_wp2_with fail
        go_roundw
        case measure => simp [intOf] <;> omega
        case rel =>
          refine ⟨k + 1, by go_num, by omega, hf2, ?_⟩
          have := H8.out
          rw [Hid, HTK.out, List.all_append, HA.out]
          simp [freeI]
          omega
    · obtain rfl : k = n := by omega
      have hall : freeB ins = true := by have := HA.out; rw [List.take_of_length_le (by rw [HIL.out]; exact Nat.le_refl _)] at this; exact this
      have HALL := Lib.hid hall
      clear hall
      go_wp2_with fail
      go_ret
      exact ⟨by rw [HALL.out]; rfl, hf⟩
end Go.Proofs.Ytoadmpochaeohaa
