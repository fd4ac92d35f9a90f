/-
  An argument that is a slice of calls on cells, opened.
-/
import Derived.Test.YthlefnajbfkdbaaOpen
import Derived.Test.YthlefnajbfkdbaaCellsLaw
import Derived.Deep.Strs
set_option linter.unusedVariables false
set_option linter.unusedSimpArgs false
namespace Go.Proofs.Ythlefnajbfkdbaa
open Go.RowKit Go.WideShapes Go.ChangeShapes Go.ChangeAt

section
variable {H : Type} {enc : TypeId × Value → H} {W : World} {held : Bool}

theorem wf_i64 {z : Int} (h : (Lit.int .i64 z).wf = true) : -9223372036854775808 ≤ z ∧ z ≤ 9223372036854775807 := by
  simpa [Lit.wf, IntKind.min, IntKind.max, IntKind.signed, IntKind.bits] using h

theorem cells_int : Try.prog.cellsOf 3 = 1 := by kernel_rfl

theorem rows_lay : ∀ (rows : List (List Value × DataW H)), (∀ r ∈ rows, Row enc Try.prog W held 42 3 r) → ∃ ls : List Ly, rows.flatMap (·.1) = flatY ls ∧ (∀ y ∈ ls, -9223372036854775808 ≤ y.a ∧ y.a ≤ 9223372036854775807) ∧ ∀ y ∈ ls, -9223372036854775808 ≤ y.kind ∧ y.kind ≤ 9223372036854775807
  | [], _ => ⟨[], rfl, by simp, by simp⟩
  | r :: rows, h => by
    obtain ⟨ls, e, h1, h2⟩ := rows_lay rows (fun x hx => h x (List.mem_cons_of_mem _ hx))
    have hr := h r List.mem_cons_self
    obtain ⟨fuel, ps, ht⟩ := hr.trod
    have hl := hr.len
    obtain ⟨cs, d⟩ := r
    match cs, hl with
    | [x0, x1, x2], _ =>
      obtain ⟨y0, y1, y2, n, _, _, g0, g1, g2⟩ := Go.Deep.trod_struct3 Try.underlying42 ht
      simp only [cells_int, List.drop_zero, List.drop_succ_cons, List.take_succ_cons, List.take_zero] at g0 g1 g2
      obtain ⟨k, k1, _, k3⟩ := DataW.trod_int Try.underlying3 g0
      obtain ⟨a, a1, _, a3⟩ := DataW.trod_int Try.underlying3 g1
      obtain ⟨b, b1, _, b3⟩ := DataW.trod_int Try.underlying3 g2
      cases k1; cases a1; cases b1
      refine ⟨⟨k, a, b⟩ :: ls, ?_, ?_, ?_⟩
      · rw [List.flatMap_cons, e]; rfl
      · intro y hy; rcases List.mem_cons.1 hy with rfl | hy
        · exact wf_i64 a3
        · exact h1 y hy
      · intro y hy; rcases List.mem_cons.1 hy with rfl | hy
        · exact wf_i64 k3
        · exact h2 y hy
end
end Go.Proofs.Ythlefnajbfkdbaa
