/-
  dredgelaw23.LinesPieces answers true: however a text is cut, what Feeds and Close tell, one behind the other, is Split of it.
  Conditions: the bound of the second form (uptoSmall), nothing else.
-/
import Derived.Test.YtmibmblebhpdfaaLawPieces
import Derived.Test.YtmibmblebhpdfaaOpen
set_option linter.unusedVariables false
set_option linter.unusedSimpArgs false
namespace Go.Proofs.Ytmibmblebhpdfaa
open Go.RowKit Go.WideShapes Go.ChangeShapes Go.ChangeAt

set_option maxRecDepth 100000 in
theorem linesPieces_lifted (os : Os) (started : os.Started) (H : Type) (enc : TypeId × Value → H) (F : Stop.Interp) :
    ReturnsInHanded {} Try.checked os 3 .any ((Rows.OpenSpec.upto Rows.linesPiecesSpec).pre6 enc Try.prog Try.f3 Rows.linesPiecesUptoRow.domain false) (((Rows.OpenSpec.upto Rows.linesPiecesSpec).at F).post enc Try.prog Try.f3 false true false false) := by
  refine returnsInHanded_of_cond (C := Try.checked) (s := Rows.OpenSpec.upto Rows.linesPiecesSpec) (k := Rows.uptoSmall) rfl ownKnob_none started (by kernel_rfl) Try.func3
    (OpenSpec.witness (enc := enc) (C := Try.checked) (s := Rows.OpenSpec.upto Rows.linesPiecesSpec) (k := Rows.uptoSmall) rfl false ⟨#[], #[.string ⟨#[]⟩, .slice none 0 0], []⟩ 8 (by kernel_rfl) (by kernel_rfl) (by kernel_rfl)
      (x := ([.lit (.string []), .nil], [], [])) (by kernel_rfl) rfl (by kernel_rfl)) ?_
  intro W base args ds gs before hval hW _ hk _
  have hW' := hW
  obtain ⟨p, q, hA0, hV, rfl, hfz, hnd⟩ := hW
  have hA : DataW.TrodAll enc Try.prog W 0 (fun _ => true) true Try.f3.params.toList args.toList ds p := hA0
  have hval : ∀ (j : Nat) t v, Try.f3.params[j]? = some t → args[j]? = some v → Value.okWide Try.prog W .any base t v := hval
  rw [Try.params3] at hA hval
  obtain ⟨v0, vs0, d0, ds0, p0, q0, hargs, rfl, rfl, h0, r0⟩ := trodAll_cons hA
  obtain ⟨v1, vs1, d1, ds1, p1, q1, rfl, rfl, rfl, h1, r1⟩ := trodAll_cons r0
  obtain ⟨rfl, rfl, rfl⟩ := trodAll_nil r1
  obtain rfl : args = #[v0, v1] := by cases args; simp_all
  obtain ⟨rfl, rfl⟩ := trodVars_none hV
  obtain ⟨text, rfl, rfl, rfl, w0⟩ := Go.ChangeMaps.open_string Try.underlying9 (hval 0 9 v0 rfl rfl) h0
  obtain ⟨A1, n1, c1, rows1, rfl, hn1, hrd1, hd1, hm1, hrow1⟩ := open_rows (s := 1) Try.underlying22 (by kernel_rfl) (by omega) (hval 1 22 v1 rfl rfl) h1
  obtain ⟨cuts, rfl, wf1⟩ := rows_int Try.underlying3 rows1 hrow1
  rw [flat_one] at hrd1
  have hn1 : cuts.length = n1 := by simpa using hn1
  have hb := of_decide_eq_true hk
  simp only [List.append_nil, List.nil_append, List.cons_append, Rows.uptoBulkAll] at hb
  have hbk0 : Rows.uptoBulk (DataW.lit (H := H) (.string text.data.toList)) = text.size + 1 := by simp [Rows.uptoBulk]
  have hbk1 := bulk_rows (H := H) hd1 (by simpa using hn1)
  refine (lawPieces text A1 n1 c1 cuts W (by omega) hrd1 wf1 (by omega)).mono fun e W' ⟨he, hg⟩ => ?_
  subst he
  exact ⟨_, rfl, law_post laidOut hW' rfl (by kernel_rfl) ⟨rfl, rfl, rfl⟩ rfl Try.underlying4 hg.below⟩

theorem linesPieces_holds : Rows.LinesPiecesUptoSaid :=
  OpenClaim.holds_of_cond 3 Try.f3 rfl rfl rfl rfl rfl rfl rfl ⟨rfl, rfl, rfl, rfl, rfl⟩ rfl rfl rfl rfl rfl (by kernel_rfl) Try.func3 (by kernel_rfl)
    (of_decide_eq_true (by kernel_rfl)) (by unfold Func.isWrapper; first | (rw [if_pos (by decide +kernel)]; kernel_rfl) | (rw [if_neg (by decide +kernel)]; exact ⟨rfl, rfl⟩))
    (fun os started H enc _ F => linesPieces_lifted os started H enc F)
end Go.Proofs.Ytmibmblebhpdfaa
