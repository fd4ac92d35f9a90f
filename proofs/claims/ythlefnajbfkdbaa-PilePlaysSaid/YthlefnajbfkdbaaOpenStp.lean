/-
  An argument that is a slice of steps on a pile, opened.
-/
import Derived.Test.YthlefnajbfkdbaaOpenTh
import Derived.Test.YthlefnajbfkdbaaLawPP
set_option linter.unusedVariables false
set_option linter.unusedSimpArgs false
namespace Go.Proofs.Ythlefnajbfkdbaa
open Go.RowKit Go.WideShapes Go.ChangeShapes Go.ChangeAt

section
variable {H : Type} {enc : TypeId × Value → H} {P : Program} {W w : World} {held : Bool} {base : Nat} {spare : Nat → Bool}

theorem trod_struct6 {t : TypeId} {f0 f1 f2 f3 f4 f5 : Field} {fuel : Nat} {cs : List Value} {x : DataW H × List MemPlace} (ht : P.underlying t = some (.struct #[f0, f1, f2, f3, f4, f5])) (h : DataW.trod enc P w base spare held fuel t cs = some x) :
    ∃ y0 y1 y2 y3 y4 y5 n, DataW.trod enc P w base spare held n f0.type ((cs.drop f0.offset).take (P.cellsOf f0.type)) = some y0 ∧ DataW.trod enc P w base spare held n f1.type ((cs.drop f1.offset).take (P.cellsOf f1.type)) = some y1 ∧
      DataW.trod enc P w base spare held n f2.type ((cs.drop f2.offset).take (P.cellsOf f2.type)) = some y2 ∧ DataW.trod enc P w base spare held n f3.type ((cs.drop f3.offset).take (P.cellsOf f3.type)) = some y3 ∧
      DataW.trod enc P w base spare held n f4.type ((cs.drop f4.offset).take (P.cellsOf f4.type)) = some y4 ∧ DataW.trod enc P w base spare held n f5.type ((cs.drop f5.offset).take (P.cellsOf f5.type)) = some y5 := by
  obtain ⟨xs, n, _, rfl, hl, hlen, hf⟩ := DataW.trod_struct ht h
  match xs, hlen with
  | [y0, y1, y2, y3, y4, y5], _ => exact ⟨y0, y1, y2, y3, y4, y5, n, by simpa using hf 0 f0 rfl, by simpa using hf 1 f1 rfl, by simpa using hf 2 f2 rfl, by simpa using hf 3 f3 rfl, by simpa using hf 4 f4 rfl, by simpa using hf 5 f5 rfl⟩

theorem rows_stp : ∀ (rows : List (List Value × DataW H)), (∀ r ∈ rows, Row enc Try.prog W held 64 6 r) → ∃ ls : List Stp, rows.flatMap (·.1) = flatS ls ∧ ls.length = rows.length ∧ ∀ y ∈ ls, y.ok
  | [], _ => ⟨[], rfl, rfl, by simp⟩
  | r :: rows, h => by
    obtain ⟨ls, e, hl0, h1⟩ := rows_stp rows (fun x hx => h x (List.mem_cons_of_mem _ hx))
    have hr := h r List.mem_cons_self
    obtain ⟨fuel, ps, ht⟩ := hr.trod
    have hl := hr.len
    obtain ⟨cs, d⟩ := r
    match cs, hl with
    | [x0, x1, x2, x3, x4, x5], _ =>
      obtain ⟨y0, y1, y2, y3, y4, y5, n, g0, g1, g2, g3, g4, g5⟩ := trod_struct6 Try.underlying64 ht
      simp only [cells_i3, cells_s2, List.drop_zero, List.drop_succ_cons, List.take_succ_cons, List.take_zero] at g0 g1 g2 g3 g4 g5
      obtain ⟨k0, a0, _, b0⟩ := DataW.trod_int Try.underlying3 g0
      obtain ⟨k1, a1, _, b1⟩ := DataW.trod_int Try.underlying3 g1
      obtain ⟨k2, a2, _, b2⟩ := DataW.trod_int Try.underlying3 g2
      obtain ⟨k3, a3, _, _⟩ := DataW.trod_string Try.underlying9 g3
      obtain ⟨k4, a4, _, b4⟩ := DataW.trod_int Try.underlying3 g4
      obtain ⟨k5, a5, _, b5⟩ := DataW.trod_int Try.underlying3 g5
      cases a0; cases a1; cases a2; cases a3; cases a4; cases a5
      refine ⟨⟨k0, k1, k2, k3, k4, k5⟩ :: ls, ?_, by simp [hl0], ?_⟩
      · rw [List.flatMap_cons, e]; rfl
      · intro y hy; rcases List.mem_cons.1 hy with rfl | hy
        · exact ⟨(wf_i64' b2).1, (wf_i64' b2).2, (wf_i64' b4).1, (wf_i64' b4).2⟩
        · exact h1 y hy
end
end Go.Proofs.Ythlefnajbfkdbaa
