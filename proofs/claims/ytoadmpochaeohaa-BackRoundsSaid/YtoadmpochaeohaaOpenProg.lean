/-
  An argument that is a program (api.Program), opened.
-/
import Derived.Test.YtoadmpochaeohaaOpen
import Derived.Test.YtoadmpochaeohaaNSpec
import Derived.Lib.SmallJoins
import Derived.Laws.IdiomArrays
set_option linter.unusedVariables false
set_option linter.unusedSimpArgs false
set_option maxRecDepth 100000
namespace Go.Proofs.Ytoadmpochaeohaa
open Go.RowKit Go.WideShapes Go.ChangeShapes Go.ChangeAt

section
variable {H : Type} {enc : TypeId × Value → H} {P : Program} {W : World} {held : Bool}

theorem wf_i64 {z : Int} (h : (Lit.int .i64 z).wf = true) : -9223372036854775808 ≤ z ∧ z ≤ 9223372036854775807 := by
  simpa [Lit.wf, IntKind.min, IntKind.max, IntKind.signed, IntKind.bits] using h
/-- 'open_rows' of a slice that stands in one cell. -/
theorem open_cell {t e : TypeId} {v : Value} {d : DataW H} {ps : List MemPlace} {s fuel : Nat} (ht : P.underlying t = some (.slice e)) (hs : P.cellsOf e = s) (hs0 : 0 < s) (hf : DataW.trod enc P W 0 (fun _ => true) held fuel t [v] = some (d, ps)) :
    ∃ (A : Option Addr) (n c : Nat) (rows : List (List Value × DataW H)), v = .slice A n c ∧ rows.length = n ∧ Rd W (fun _ => True) s A n c (rows.flatMap (·.1)) ∧
      ((d = .nil ∧ n = 0) ∨ ∃ sp, d = .slice (rows.map (·.2)) sp) ∧ c ≤ maxLen ∧ ∀ r ∈ rows, Row enc P W held e s r := by
  have hform : ∃ A n c, v = .slice A n c := by
    rcases DataW.trod_slice ht hf with ⟨hc, hx⟩ | ⟨a, len, cap, elems, rest, m, _, hc, hx, _⟩
    · simp only [List.cons.injEq, and_true] at hc; exact ⟨_, _, _, hc⟩
    · simp only [List.cons.injEq, and_true] at hc; exact ⟨_, _, _, hc⟩
  obtain ⟨A, n, c, rfl⟩ := hform
  rcases DataW.trod_slice ht hf with ⟨hc, hx⟩ | ⟨a, len, cap, elems, rest, m, _, hc, hx, hb, hl, hm, hlen, hel, hsp, hns⟩
  · simp only [List.cons.injEq, Value.slice.injEq, and_true] at hc
    obtain ⟨rfl, rfl, rfl⟩ := hc
    simp only [Prod.mk.injEq] at hx
    exact ⟨none, 0, 0, [], rfl, rfl, ⟨by simp, Nat.le_refl _, fun _ => ⟨rfl, rfl⟩, fun h => absurd h (Nat.lt_irrefl _)⟩, .inl ⟨hx.1, rfl⟩, by simp [maxLen], by simp⟩
  · simp only [List.cons.injEq, Value.slice.injEq, and_true] at hc
    obtain ⟨rfl, rfl, rfl⟩ := hc
    simp only [Prod.mk.injEq] at hx
    have each : ∀ i, i < n → ∃ cs y, W.cells? 0 (a.add (i * s)) s = some cs ∧ elems[i]? = some y ∧ DataW.trod enc P W 0 (fun _ => true) held m e cs = some y := by
      intro i hi
      have h := hel i hi
      rw [hs, List.getElem?_eq_getElem (by omega)] at h
      obtain ⟨cs, h1, h2⟩ := Option.bind_eq_some_iff.1 h
      exact ⟨cs, elems[i], h1, List.getElem?_eq_getElem (by omega), h2⟩
    obtain ⟨css, hcl, hcc⟩ : ∃ css : List (List Value), css.length = n ∧ ∀ i, i < n → ∃ cs y, css[i]? = some cs ∧ W.cells? 0 (a.add (i * s)) s = some cs ∧ elems[i]? = some y ∧ DataW.trod enc P W 0 (fun _ => true) held m e cs = some y := by
      refine ⟨(List.range n).map fun i => (W.cells? 0 (a.add (i * s)) s).getD [], by simp, fun i hi => ?_⟩
      obtain ⟨cs, y, h1, h2, h3⟩ := each i hi
      exact ⟨cs, y, by simp [hi, h1], h1, h2, h3⟩
    have hz : (css.zip (elems.map (·.1))).length = n := by simp [hcl, hlen]
    have hz1 : (css.zip (elems.map (·.1))).map (·.1) = css := by rw [List.map_fst_zip]; simp [hcl, hlen]
    have hz2 : (css.zip (elems.map (·.1))).map (·.2) = elems.map (·.1) := by rw [List.map_snd_zip]; simp [hcl, hlen]
    have hlens : ∀ x ∈ css, x.length = s := by
      intro x hx'
      obtain ⟨i, hi⟩ := List.getElem?_of_mem hx'
      have hin : i < n := by have := (List.getElem?_eq_some_iff.1 hi).1; omega
      obtain ⟨cs, y, g1, g2, _, _⟩ := hcc i hin
      rw [hi] at g1; injection g1 with g1; subst g1
      exact (World.cells?_some g2).2.1
    have hrows : ∀ r ∈ css.zip (elems.map (·.1)), Row enc P W held e s r := by
      intro r hr
      obtain ⟨i, hi⟩ := List.getElem?_of_mem hr
      have hin : i < n := by have := (List.getElem?_eq_some_iff.1 hi).1; omega
      obtain ⟨cs, y, g1, g2, g3, g4⟩ := hcc i hin
      have : (css.zip (elems.map (·.1)))[i]? = some (cs, y.1) := by rw [List.getElem?_zip_eq_some]; exact ⟨g1, by rw [List.getElem?_map, g3]; rfl⟩
      rw [hi] at this; injection this with this; subst this
      exact ⟨(World.cells?_some g2).2.1, ⟨m, y.2, g4⟩⟩
    refine ⟨some a, n, c, css.zip (elems.map (·.1)), rfl, hz, ⟨?_, hl, fun h => (by cases h), fun hn => ?_⟩, .inr ⟨_, by rw [hz2]; exact hx.1⟩, hm, hrows⟩
    · rw [flat_len _ (fun r hr => (hrows r hr).len), hz]
    · obtain ⟨cs, y, g1, g2, _, _⟩ := hcc 0 hn
      have hcell := (World.cells?_some g2).2.2 0 hs0
      have hlen0 := (World.cells?_some g2).2.1
      rw [List.getElem?_eq_getElem (by omega)] at hcell
      simp only [Nat.zero_mul] at hcell
      have ha0 : (a.add 0).add 0 = a := by simp [Addr.add]
      rw [ha0] at hcell
      have hsp0 := World.cell?_spot hcell
      obtain ⟨b, o, q⟩ := a
      simp only at hsp0
      subst hsp0
      refine ⟨b, o, rfl, trivial, World.block_lt_of_cell? W _ hcell, fun j u hj => ?_⟩
      have hjl := (List.getElem?_eq_some_iff.1 hj).1
      rw [flat_len _ (fun r hr => (hrows r hr).len), hz] at hjl
      have hdiv : j / s < n := by rw [Nat.div_lt_iff_lt_mul hs0]; exact hjl
      obtain ⟨cs', y', k1, k2, k3, _⟩ := hcc (j / s) hdiv
      have hjs : j = j / s * s + j % s := by rw [Nat.mul_comm]; exact (Nat.div_add_mod j s).symm
      have hm' : j % s < s := Nat.mod_lt _ hs0
      have hzj : (css.zip (elems.map (·.1)))[j / s]? = some (cs', y'.1) := by rw [List.getElem?_zip_eq_some]; exact ⟨k1, by rw [List.getElem?_map, k3]; rfl⟩
      have hget := flat_get (f := fun r : List Value × DataW H => r.1) _ (fun r hr => (hrows r hr).len) hs0 (j / s) (j % s) _ hzj hm'
      rw [← hjs, hj] at hget
      have hc2 := (World.cells?_some k2).2.2 (j % s) hm'
      rw [addr_add, addr_add, Nat.add_assoc, ← hjs] at hc2
      rw [hc2, ← hget]

theorem trod_struct7 {base : Nat} {spare : Nat → Bool} {t : TypeId} {f0 f1 f2 f3 f4 f5 f6 : Field} {fuel : Nat} {cs : List Value} {x : DataW H × List MemPlace} (ht : P.underlying t = some (.struct #[f0, f1, f2, f3, f4, f5, f6])) (h : DataW.trod enc P W base spare held fuel t cs = some x) :
    ∃ y0 y1 y2 y3 y4 y5 y6 n, DataW.trod enc P W base spare held n f0.type ((cs.drop f0.offset).take (P.cellsOf f0.type)) = some y0 ∧ DataW.trod enc P W base spare held n f1.type ((cs.drop f1.offset).take (P.cellsOf f1.type)) = some y1 ∧ DataW.trod enc P W base spare held n f2.type ((cs.drop f2.offset).take (P.cellsOf f2.type)) = some y2 ∧ DataW.trod enc P W base spare held n f3.type ((cs.drop f3.offset).take (P.cellsOf f3.type)) = some y3 ∧ DataW.trod enc P W base spare held n f4.type ((cs.drop f4.offset).take (P.cellsOf f4.type)) = some y4 ∧ DataW.trod enc P W base spare held n f5.type ((cs.drop f5.offset).take (P.cellsOf f5.type)) = some y5 ∧ DataW.trod enc P W base spare held n f6.type ((cs.drop f6.offset).take (P.cellsOf f6.type)) = some y6 := by
  obtain ⟨xs, n, _, _, hl, hlen, hf⟩ := DataW.trod_struct ht h
  match xs, hlen with
  | [y0, y1, y2, y3, y4, y5, y6], _ => exact ⟨y0, y1, y2, y3, y4, y5, y6, n, by simpa using hf 0 f0 rfl, by simpa using hf 1 f1 rfl, by simpa using hf 2 f2 rfl, by simpa using hf 3 f3 rfl, by simpa using hf 4 f4 rfl, by simpa using hf 5 f5 rfl, by simpa using hf 6 f6 rfl⟩

theorem rows_ins : ∀ (rows : List (List Value × DataW H)), (∀ r ∈ rows, Row enc Try.prog W held 39 10 r) → ∃ ls : List Ins, rows.flatMap (·.1) = flatI ls ∧ ls.length = rows.length
  | [], _ => ⟨[], rfl, rfl⟩
  | r :: rows, h => by
    obtain ⟨ls, e, hl2⟩ := rows_ins rows (fun x hx => h x (List.mem_cons_of_mem _ hx))
    have hr := h r List.mem_cons_self
    obtain ⟨fuel, ps, ht⟩ := hr.trod
    have hl := hr.len
    obtain ⟨cs, d⟩ := r
    match cs, hl with
    | [x0, x1, x2, x3, x4, x5, x6, x7, x8, x9], _ =>
      obtain ⟨y0, y1, y2, y3, y4, y5, y6, n, g0, g1, g2, g3, g4, g5, g6⟩ := trod_struct7 Try.underlying39 ht
      have c3 : Try.prog.cellsOf 3 = 1 := by kernel_rfl
      have c48 : Try.prog.cellsOf 37 = 4 := by kernel_rfl
      have c46 : Try.prog.cellsOf 35 = 1 := by kernel_rfl
      simp only [c3, c48, List.drop_zero, List.drop_succ_cons, List.take_succ_cons, List.take_zero] at g0 g1 g2 g3 g4 g5 g6
      obtain ⟨z0, k0, _, _⟩ := DataW.trod_int Try.underlying3 g0
      obtain ⟨z1, k1, _, _⟩ := DataW.trod_int Try.underlying3 g1
      obtain ⟨z2, k2, _, _⟩ := DataW.trod_int Try.underlying3 g2
      obtain ⟨z3, k3, _, _⟩ := DataW.trod_int Try.underlying3 g3
      obtain ⟨z4, k4, _, _⟩ := DataW.trod_int Try.underlying3 g4
      obtain ⟨z5, k5, _, _⟩ := DataW.trod_int Try.underlying3 g5
      obtain ⟨_, _, _, _, _, _, q0, q1, q2, q3⟩ := trod_array4 Try.underlying37 c46 g6
      obtain ⟨s0, j0, _, _⟩ := DataW.trod_int Try.underlying35 q0
      obtain ⟨s1, j1, _, _⟩ := DataW.trod_int Try.underlying35 q1
      obtain ⟨s2, j2, _, _⟩ := DataW.trod_int Try.underlying35 q2
      obtain ⟨s3, j3, _, _⟩ := DataW.trod_int Try.underlying35 q3
      cases k0; cases k1; cases k2; cases k3; cases k4; cases k5; cases j0; cases j1; cases j2; cases j3
      refine ⟨⟨z0, z1, z2, z3, z4, z5, s0, s1, s2, s3⟩ :: ls, ?_, by simp [hl2]⟩
      rw [List.flatMap_cons, e]; rfl

theorem open_prog {v : Value} {d : DataW H} {ps : List MemPlace} {base : Nat} (hval : Value.okWide Try.prog W .any base 24 v) (hd : DataW.Trod enc Try.prog W 0 (fun _ => true) held 24 v d ps) :
    ∃ (A : Option Addr) (n cp : Nat) (gr co : Int) (fo : Bool) (ins : List Ins), v = .agg #[.slice A n cp, .int .i64 gr, .int .i64 co, .bool fo] ∧ Rd W (fun _ => True) 10 A n cp (flatI ins) ∧ cp ≤ maxLen ∧ n + 1 ≤ Rows.uptoBulk d ∧
      (-9223372036854775808 ≤ gr ∧ gr ≤ 9223372036854775807) ∧ (-9223372036854775808 ≤ co ∧ co ≤ 9223372036854775807) := by
  obtain ⟨v0, v1, v2, v3, y0, y1, y2, y3, m, rfl, rfl, _, g0, g1, g2, g3⟩ := Joins.open_agg4 Try.underlying24 (by kernel_rfl) (by kernel_rfl) hval hd
  obtain ⟨d0, p0⟩ := y0
  obtain ⟨A, n, cp, rows, rfl, hn, hrd, hd0, hm, hrow⟩ := open_cell (s := 10) Try.underlying22 (by kernel_rfl) (by omega) g0
  obtain ⟨ins, fl, _⟩ := rows_ins rows hrow
  rw [fl] at hrd
  obtain ⟨gr, h1, _, w1⟩ := DataW.trod_int Try.underlying3 g1
  obtain ⟨co, h2, _, w2⟩ := DataW.trod_int Try.underlying3 g2
  obtain ⟨fo, h3, _⟩ := DataW.trod_bool Try.underlying4 g3
  cases h1; cases h2; cases h3
  have hb := bulk_rows hd0 hn
  refine ⟨A, n, cp, gr, co, fo, ins, rfl, hrd, hm, ?_, wf_i64 w1, wf_i64 w2⟩
  simp only [Rows.uptoBulk, Rows.uptoBulkAll]
  omega
end
end Go.Proofs.Ytoadmpochaeohaa
