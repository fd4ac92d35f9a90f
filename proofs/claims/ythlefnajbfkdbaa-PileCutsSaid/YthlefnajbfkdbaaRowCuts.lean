/-
  dredgelaw04.PileCuts answers true: what is pushed and cut, a pile has; At tells it.
  Conditions: none.
-/
import Derived.Test.YthlefnajbfkdbaaLawCuts
import Derived.Test.YthlefnajbfkdbaaOpen
import Derived.WideRow
set_option linter.unusedVariables false
set_option linter.unusedSimpArgs false
namespace Go.Proofs.Ythlefnajbfkdbaa
open Go.RowKit Go.WideShapes Go.ChangeShapes Go.ChangeAt

set_option maxRecDepth 100000 in
theorem pileCuts_lifted (os : Os) (started : os.Started) (H : Type) (enc : TypeId × Value → H) :
    ReturnsInHanded {} Try.checked os 3 .any (Rows.pileCutsSpec.pre6 enc Try.prog Try.f3 Rows.pileCutsRow.domain false) (Rows.pileCutsSpec.post enc Try.prog Try.f3 false true false false) := by
  refine returnsInHanded_of_change (C := Try.checked) ownKnob_none started (by kernel_rfl) Try.func3
    (ChangeSpec.witness6 (enc := enc) (C := Try.checked) false ⟨#[], #[.slice none 0 0, .slice none 0 0], []⟩ 8 (by kernel_rfl) (by kernel_rfl) (by kernel_rfl) (by kernel_rfl)) ?_
  intro W base args ds gs before hval hW _ _
  have hW' := hW
  obtain ⟨p, q, hA0, hV, rfl, hfz, hnd⟩ := hW
  have hA : DataW.TrodAll enc Try.prog W 0 (fun _ => true) true Try.f3.params.toList args.toList ds p := hA0
  have hval : ∀ (j : Nat) t v, Try.f3.params[j]? = some t → args[j]? = some v → Value.okWide Try.prog W .any base t v := hval
  rw [Try.params3] at hA hval
  obtain ⟨v0, vs0, d0, ds0, p0, q0, hargs, rfl, rfl, h0, r0⟩ := trodAll_cons hA
  obtain ⟨v1, vs1, d1, ds1, p1, q1, rfl, rfl, rfl, h1, r1⟩ := trodAll_cons r0
  obtain ⟨rfl, rfl, rfl⟩ := trodAll_nil r1
  obtain rfl : args = #[v0, v1] := by cases args; simp_all
  obtain ⟨rfl, rfl⟩ := trodVars_none hV
  obtain ⟨A0, n0, c0, rows0, rfl, hn0, hrd0, hd0, hm0, hrow0⟩ := open_rows (s := 1) Try.underlying22 (by kernel_rfl) (by omega) (hval 0 22 v0 rfl rfl) h0
  obtain ⟨l, rfl, wf0⟩ := rows_int Try.underlying3 rows0 hrow0
  rw [flat_one] at hrd0
  have hn0 : l.length = n0 := by simpa using hn0
  obtain ⟨A1, n1, c1, rows1, rfl, hn1, hrd1, hd1, hm1, hrow1⟩ := open_rows (s := 1) Try.underlying22 (by kernel_rfl) (by omega) (hval 1 22 v1 rfl rfl) h1
  obtain ⟨cuts, rfl, wf1⟩ := rows_int Try.underlying3 rows1 hrow1
  rw [flat_one] at hrd1
  have hn1 : cuts.length = n1 := by simpa using hn1
  refine (lawCuts A0 n0 c0 l A1 n1 c1 cuts W hrd0 hrd1).mono fun e W' ⟨he, hg⟩ => ?_
  subst he
  exact ⟨_, rfl, law_post laidOut hW' rfl (by kernel_rfl) ⟨rfl, rfl, rfl⟩ rfl Try.underlying4 hg.below⟩

theorem pileCuts_holds : Rows.PileCutsSaid :=
  OpenClaim.holds_of_wide 3 Try.f3 rfl rfl rfl rfl rfl rfl rfl ⟨rfl, rfl, rfl, rfl, rfl⟩ rfl rfl rfl rfl rfl (by kernel_rfl) Try.func3 (by kernel_rfl)
    (of_decide_eq_true (by kernel_rfl)) (by unfold Func.isWrapper; first | (rw [if_pos (by decide +kernel)]; kernel_rfl) | (rw [if_neg (by decide +kernel)]; exact ⟨rfl, rfl⟩))
    (fun os started H enc _ => pileCuts_lifted os started H enc)
end Go.Proofs.Ythlefnajbfkdbaa
