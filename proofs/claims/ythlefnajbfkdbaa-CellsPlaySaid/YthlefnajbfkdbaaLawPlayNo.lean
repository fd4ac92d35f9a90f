import Derived.Test.YthlefnajbfkdbaaRefs2
set_option linter.unusedVariables false
set_option linter.unusedSimpArgs false
namespace Go.Proofs.Ythlefnajbfkdbaa
open Go.RowKit

set_option maxHeartbeats 1000000 in
set_option maxRecDepth 100000 in
theorem lawPlayNo (N : Int) (v : Value) (W : World) (hN : N < 0 ∨ 100000 < N) :
    Calls Try.prog 4 #[.int .i64 N, v] W fun e W' => e = .returned (.bool true) ∧ Frm (fun _ => False) W W' := by
  have hno := fun w => newNo N w hN
  have HNO := Lib.hid hno
  clear hno
  by_cases h1 : N < 0
  · clear hN
    go_enter Try.func4, Try.ntmps4
    go_wp2_with fail
    refine (known_calls W).mono ?_
    rintro e w0 ⟨rfl, hf0⟩
    go_wp2_with fail
    refine (HNO.out w0).mono ?_
    rintro e w' ⟨rfl, rfl⟩
    go_wp2
    go_ret
    exact ⟨rfl, hf0⟩
  · have h2 : 100000 < N := hN.resolve_left h1
    clear hN
    go_enter Try.func4, Try.ntmps4
    go_wp2_with fail
    refine (known_calls W).mono ?_
    rintro e w0 ⟨rfl, hf0⟩
    go_wp2_with fail
    refine (HNO.out w0).mono ?_
    rintro e w' ⟨rfl, rfl⟩
    go_wp2
    go_ret
    exact ⟨rfl, hf0⟩
end Go.Proofs.Ythlefnajbfkdbaa
