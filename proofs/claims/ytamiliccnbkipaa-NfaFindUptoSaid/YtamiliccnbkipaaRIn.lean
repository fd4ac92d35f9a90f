/-
  Reference 14: is a byte in a set?
-/
import Derived.Test.YtamiliccnbkipaaRSmall
import Derived.WalkSmall
set_option linter.unusedVariables false
set_option linter.unusedSimpArgs false
namespace Go.Proofs.Ytamiliccnbkipaa
open Go.RowKit

/-- The words of its set are words. -/
def Ins.ok (i : Ins) : Prop := (0 ≤ i.s0 ∧ i.s0 ≤ 18446744073709551615) ∧ (0 ≤ i.s1 ∧ i.s1 ≤ 18446744073709551615) ∧ (0 ≤ i.s2 ∧ i.s2 ≤ 18446744073709551615) ∧ (0 ≤ i.s3 ∧ i.s3 ≤ 18446744073709551615)
theorem bit_of (S : Int) (m : Nat) (h : 0 ≤ S ∧ S ≤ 18446744073709551615) : ((S / 2 ^ m).tmod 2 == 1) = (bits BinOp.and IntKind.u64 (S / 2 ^ m) 1 == 1) := by
  have h2 : (0 : Int) < 2 ^ m := Int.pow_pos (by omega)
  have h0 : 0 ≤ S / 2 ^ m := Int.ediv_nonneg h.1 (by omega)
  have h1 : S / 2 ^ m ≤ S := Int.ediv_le_self _ h.1
  rw [and_one_u64 _ h0 (by omega), Int.tmod_eq_emod_of_nonneg h0]
set_option maxHeartbeats 1600000 in
theorem refIn (i : Ins) (hi : i.ok) (c : UInt8) (w : World) : Calls Try.prog 37 #[.agg #[.int .u64 i.s0, .int .u64 i.s1, .int .u64 i.s2, .int .u64 i.s3], .int .i64 c.toNat] w fun e w' => e = .returned (.bool (inSet i c)) ∧ w' = w.alloc (.cells #[.int .u64 i.s0, .int .u64 i.s1, .int .u64 i.s2, .int .u64 i.s3] 48) := by
  have hc := c.toNat_lt
  have hB := Blk.new w [.int .u64 i.s0, .int .u64 i.s1, .int .u64 i.s2, .int .u64 i.s3] 48
  have b0 := hB.cell 0
  have b1 := hB.cell 1
  have b2 := hB.cell 2
  have b3 := hB.cell 3
  simp only [List.getElem?_cons_zero, List.getElem?_cons_succ] at b0 b1 b2 b3
  go_enter Try.func37, Try.ntmps37
  go_upto_region 1 with fail
  generalize hw : w.alloc (.cells #[.int .u64 i.s0, .int .u64 i.s1, .int .u64 i.s2, .int .u64 i.s3] 48) = w1 at *
  have HW := Lib.hid hw
  clear hw
  generalize w.heap.size = b at *
  have hq : c.toNat / 64 = 0 ∨ c.toNat / 64 = 1 ∨ c.toNat / 64 = 2 ∨ c.toNat / 64 = 3 := by omega
  rcases hq with hq | hq | hq | hq
  all_goals
    go_wp2_with fail
    go_ret
    refine ⟨?_, HW.out.symm⟩
    simp only [inSet, hq, if_true, Nat.reduceEqDiff, if_false]
    first | (rw [bit_of _ _ hi.1]; rfl) | (rw [bit_of _ _ hi.2.1]; rfl) | (rw [bit_of _ _ hi.2.2.1]; rfl) | (rw [bit_of _ _ hi.2.2.2]; rfl)
end Go.Proofs.Ytamiliccnbkipaa
