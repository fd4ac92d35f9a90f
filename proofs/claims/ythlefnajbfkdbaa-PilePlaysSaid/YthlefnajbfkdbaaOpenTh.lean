/-
  An argument that is a slice of things, opened.
-/
import Derived.Test.YthlefnajbfkdbaaOpen
import Derived.Test.YthlefnajbfkdbaaTPile
import Derived.ChangeSame
set_option linter.unusedVariables false
set_option linter.unusedSimpArgs false
namespace Go.Proofs.Ythlefnajbfkdbaa
open Go.RowKit Go.WideShapes Go.ChangeShapes Go.ChangeAt

section
variable {H : Type} {enc : TypeId × Value → H} {W : World} {held : Bool}

theorem wf_i64' {z : Int} (h : (Lit.int .i64 z).wf = true) : -9223372036854775808 ≤ z ∧ z ≤ 9223372036854775807 := by
  simpa [Lit.wf, IntKind.min, IntKind.max, IntKind.signed, IntKind.bits] using h
theorem cells_i3 : Try.prog.cellsOf 3 = 1 := by kernel_rfl
theorem cells_s2 : Try.prog.cellsOf 9 = 1 := by kernel_rfl

theorem rows_thing : ∀ (rows : List (List Value × DataW H)), (∀ r ∈ rows, Row enc Try.prog W held 56 2 r) → ∃ ls : List Th, rows.flatMap (·.1) = flatT ls ∧ ls.length = rows.length ∧ ∀ y ∈ ls, -9223372036854775808 ≤ y.n ∧ y.n ≤ 9223372036854775807
  | [], _ => ⟨[], rfl, rfl, by simp⟩
  | r :: rows, h => by
    obtain ⟨ls, e, hl0, h1⟩ := rows_thing rows (fun x hx => h x (List.mem_cons_of_mem _ hx))
    have hr := h r List.mem_cons_self
    obtain ⟨fuel, ps, ht⟩ := hr.trod
    have hl := hr.len
    obtain ⟨cs, d⟩ := r
    match cs, hl with
    | [x0, x1], _ =>
      obtain ⟨y0, y1, n, _, _, g0, g1⟩ := Go.ChangeShapes.trod_struct2 Try.underlying56 ht
      simp only [cells_i3, cells_s2, List.drop_zero, List.drop_succ_cons, List.take_succ_cons, List.take_zero] at g0 g1
      obtain ⟨k, k1, _, k3⟩ := DataW.trod_int Try.underlying3 g0
      obtain ⟨a, a1, _, _⟩ := DataW.trod_string Try.underlying9 g1
      cases k1; cases a1
      refine ⟨⟨k, a⟩ :: ls, ?_, by simp [hl0], ?_⟩
      · rw [List.flatMap_cons, e]; rfl
      · intro y hy; rcases List.mem_cons.1 hy with rfl | hy
        · exact wf_i64' k3
        · exact h1 y hy
end
end Go.Proofs.Ythlefnajbfkdbaa
