/-
  An argument that is a program, opened; its sets are words.
-/
import Derived.Test.YtamiliccnbkipaaOpenProg
import Derived.Test.YtamiliccnbkipaaRIn
set_option linter.unusedVariables false
set_option linter.unusedSimpArgs false
namespace Go.Proofs.Ytamiliccnbkipaa
open Go.RowKit Go.WideShapes Go.ChangeShapes Go.ChangeAt

section
variable {H : Type} {enc : TypeId × Value → H} {P : Program} {W : World} {held : Bool}
theorem wf_u64 {z : Int} (h : (Lit.int .u64 z).wf = true) : 0 ≤ z ∧ z ≤ 18446744073709551615 := by
  simpa [Lit.wf, IntKind.min, IntKind.max, IntKind.signed, IntKind.bits] using h
theorem rows_ok : ∀ (rows : List (List Value × DataW H)), (∀ r ∈ rows, Row enc Try.prog W held 50 10 r) → ∃ ls : List Ins, rows.flatMap (·.1) = flatI ls ∧ ls.length = rows.length ∧ ∀ i ∈ ls, i.ok
  | [], _ => ⟨[], rfl, rfl, fun i h => (by cases h)⟩
  | r :: rows, h => by
    obtain ⟨ls, e, hl2, hk2⟩ := rows_ok rows (fun x hx => h x (List.mem_cons_of_mem _ hx))
    have hr := h r List.mem_cons_self
    obtain ⟨fuel, ps, ht⟩ := hr.trod
    have hl := hr.len
    obtain ⟨cs, d⟩ := r
    match cs, hl with
    | [x0, x1, x2, x3, x4, x5, x6, x7, x8, x9], _ =>
      obtain ⟨y0, y1, y2, y3, y4, y5, y6, n, g0, g1, g2, g3, g4, g5, g6⟩ := trod_struct7 Try.underlying50 ht
      have c3 : Try.prog.cellsOf 3 = 1 := by kernel_rfl
      have c48 : Try.prog.cellsOf 48 = 4 := by kernel_rfl
      have c46 : Try.prog.cellsOf 46 = 1 := by kernel_rfl
      simp only [c3, c48, List.drop_zero, List.drop_succ_cons, List.take_succ_cons, List.take_zero] at g0 g1 g2 g3 g4 g5 g6
      obtain ⟨z0, k0, _, _⟩ := DataW.trod_int Try.underlying3 g0
      obtain ⟨z1, k1, _, _⟩ := DataW.trod_int Try.underlying3 g1
      obtain ⟨z2, k2, _, _⟩ := DataW.trod_int Try.underlying3 g2
      obtain ⟨z3, k3, _, _⟩ := DataW.trod_int Try.underlying3 g3
      obtain ⟨z4, k4, _, _⟩ := DataW.trod_int Try.underlying3 g4
      obtain ⟨z5, k5, _, _⟩ := DataW.trod_int Try.underlying3 g5
      obtain ⟨_, _, _, _, _, _, q0, q1, q2, q3⟩ := trod_array4 Try.underlying48 c46 g6
      obtain ⟨s0, j0, _, m0⟩ := DataW.trod_int Try.underlying46 q0
      obtain ⟨s1, j1, _, m1⟩ := DataW.trod_int Try.underlying46 q1
      obtain ⟨s2, j2, _, m2⟩ := DataW.trod_int Try.underlying46 q2
      obtain ⟨s3, j3, _, m3⟩ := DataW.trod_int Try.underlying46 q3
      cases k0; cases k1; cases k2; cases k3; cases k4; cases k5; cases j0; cases j1; cases j2; cases j3
      refine ⟨⟨z0, z1, z2, z3, z4, z5, s0, s1, s2, s3⟩ :: ls, ?_, by simp [hl2], fun i hi => ?_⟩
      · rw [List.flatMap_cons, e]; rfl
      · rcases List.mem_cons.1 hi with rfl | hi
        · exact ⟨wf_u64 m0, wf_u64 m1, wf_u64 m2, wf_u64 m3⟩
        · exact hk2 i hi

theorem open_prog_ok {v : Value} {d : DataW H} {ps : List MemPlace} {base : Nat} (hval : Value.okWide Try.prog W .any base 24 v) (hd : DataW.Trod enc Try.prog W 0 (fun _ => true) held 24 v d ps) :
    ∃ (A : Option Addr) (n cp : Nat) (gr co : Int) (fo : Bool) (ins : List Ins), v = .agg #[.slice A n cp, .int .i64 gr, .int .i64 co, .bool fo] ∧ Rd W (fun _ => True) 10 A n cp (flatI ins) ∧ (∀ i ∈ ins, i.ok) ∧ cp ≤ maxLen ∧ n + 1 ≤ Rows.uptoBulk d ∧
      (-9223372036854775808 ≤ gr ∧ gr ≤ 9223372036854775807) ∧ (-9223372036854775808 ≤ co ∧ co ≤ 9223372036854775807) := by
  obtain ⟨v0, v1, v2, v3, y0, y1, y2, y3, m, rfl, rfl, _, g0, g1, g2, g3⟩ := Joins.open_agg4 Try.underlying24 (by kernel_rfl) (by kernel_rfl) hval hd
  obtain ⟨d0, p0⟩ := y0
  obtain ⟨A, n, cp, rows, rfl, hn, hrd, hd0, hm, hrow⟩ := open_cell (s := 10) Try.underlying22 (by kernel_rfl) (by omega) g0
  obtain ⟨ins, fl, _, hok⟩ := rows_ok rows hrow
  rw [fl] at hrd
  obtain ⟨gr, h1, _, w1⟩ := DataW.trod_int Try.underlying3 g1
  obtain ⟨co, h2, _, w2⟩ := DataW.trod_int Try.underlying3 g2
  obtain ⟨fo, h3, _⟩ := DataW.trod_bool Try.underlying4 g3
  cases h1; cases h2; cases h3
  have hb := bulk_rows hd0 hn
  refine ⟨A, n, cp, gr, co, fo, ins, rfl, hrd, hok, hm, ?_, wf_i64 w1, wf_i64 w2⟩
  simp only [Rows.uptoBulk, Rows.uptoBulkAll]
  omega
end
end Go.Proofs.Ytamiliccnbkipaa
