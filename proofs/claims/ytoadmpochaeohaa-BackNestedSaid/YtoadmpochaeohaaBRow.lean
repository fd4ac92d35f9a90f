/-
  Layer 20: row, walked.
-/
import Derived.Test.YtoadmpochaeohaaBTimesP
set_option linter.unusedVariables false
set_option linter.unusedSimpArgs false
set_option maxRecDepth 100000
namespace Go.Proofs.Ytoadmpochaeohaa
open Go.RowKit

theorem ba_app (a b : ByteArray) : (a ++ b).toList = a.toList ++ b.toList := by
  rw [ByteArray.toList_eq, ByteArray.toList_eq, ByteArray.toList_eq, ByteArray.data_append, Array.toList_append]
theorem ba_size (a : ByteArray) : a.toList.length = a.size := by rw [ByteArray.toList_eq]; simp
set_option maxHeartbeats 2000000 in
theorem rowB (k : Nat) (w : World) (hk : k ≤ 100000) : Calls Try.prog 24 #[.int .i64 k] w fun e w' => ∃ s : ByteArray, e = .returned (.string s) ∧ s.toList = List.replicate k 97 ∧ w = w' := by
  go_enter Try.func24, Try.ntmps24
  go_wp2_with fail
  go_loopw [3, 4] (fun sv i wr => ∃ (j : Nat) (s : ByteArray), i = .int .i64 j ∧ sv = .string s ∧ j ≤ k ∧ Hid (s.toList = List.replicate j 97) ∧ wr = w) (fun _ i _ => k - (intOf i).toNat)
  case atStart => exact ⟨0, ⟨#[]⟩, rfl, rfl, by omega, Lib.hid (by rw [ByteArray.toList_eq]; rfl), rfl⟩
  case round =>
    obtain ⟨j, s, rfl, rfl, hj, hs, rfl⟩ := hrel
    by_cases hjk : j < k
    · have hs1 : s.size = j := by rw [← ba_size, hs.out]; simp
      have HN : Hid ((s ++ ⟨#[97]⟩).toList = List.replicate (j + 1) 97) := Lib.hid (by rw [ba_app, hs.out, List.replicate_succ', ByteArray.toList_eq])
      have hwk : IntKind.i64.wrap ((j : Int) + 1) = ((j + 1 : Nat) : Int) := by rw [IntWalk.i64_in _ (by omega)]; omega
      go_wp2_with fail
      go_roundw
      case measure => simp [intOf] <;> omega
      case rel => exact ⟨j + 1, _, by go_num, rfl, by omega, HN, by trivial⟩
    · obtain rfl : j = k := by omega
      go_wp2_with fail
      go_ret
      exact ⟨s, rfl, hs.out, rfl⟩
end Go.Proofs.Ytoadmpochaeohaa
