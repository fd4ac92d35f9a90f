/-
  dredgelaw23.LinesFeed answers true: a Splitter that is fed any pieces tells the lines that end in each, what is held, what has been fed; closed where it is told so, and at the end, it begins anew.
  Conditions: the bound of the second form (uptoSmall), nothing else.
-/
import Derived.Test.YtmibmblebhpdfaaLawFeed
import Derived.Test.YtmibmblebhpdfaaOpen
set_option linter.unusedVariables false
set_option linter.unusedSimpArgs false
namespace Go.Proofs.Ytmibmblebhpdfaa
open Go.RowKit Go.WideShapes Go.ChangeShapes Go.ChangeAt

set_option maxRecDepth 100000 in
theorem linesFeed_lifted (os : Os) (started : os.Started) (H : Type) (enc : TypeId × Value → H) (F : Stop.Interp) :
    ReturnsInHanded {} Try.checked os 7 .any ((Rows.OpenSpec.upto Rows.linesFeedSpec).pre6 enc Try.prog Try.f7 Rows.linesFeedUptoRow.domain false) (((Rows.OpenSpec.upto Rows.linesFeedSpec).at F).post enc Try.prog Try.f7 false true false false) := by
  refine returnsInHanded_of_cond (C := Try.checked) (s := Rows.OpenSpec.upto Rows.linesFeedSpec) (k := Rows.uptoSmall) rfl ownKnob_none started (by kernel_rfl) Try.func7
    (OpenSpec.witness (enc := enc) (C := Try.checked) (s := Rows.OpenSpec.upto Rows.linesFeedSpec) (k := Rows.uptoSmall) rfl false ⟨#[], #[.slice none 0 0, .slice none 0 0], []⟩ 8 (by kernel_rfl) (by kernel_rfl) (by kernel_rfl)
      (x := ([.nil, .nil], [], [])) (by kernel_rfl) rfl (by kernel_rfl)) ?_
  intro W base args ds gs before hval hW _ hk _
  have hW' := hW
  obtain ⟨p, q, hA0, hV, rfl, hfz, hnd⟩ := hW
  have hA : DataW.TrodAll enc Try.prog W 0 (fun _ => true) true Try.f7.params.toList args.toList ds p := hA0
  have hval : ∀ (j : Nat) t v, Try.f7.params[j]? = some t → args[j]? = some v → Value.okWide Try.prog W .any base t v := hval
  rw [Try.params7] at hA hval
  obtain ⟨v0, vs0, d0, ds0, p0, q0, hargs, rfl, rfl, h0, r0⟩ := trodAll_cons hA
  obtain ⟨v1, vs1, d1, ds1, p1, q1, rfl, rfl, rfl, h1, r1⟩ := trodAll_cons r0
  obtain ⟨rfl, rfl, rfl⟩ := trodAll_nil r1
  obtain rfl : args = #[v0, v1] := by cases args; simp_all
  obtain ⟨rfl, rfl⟩ := trodVars_none hV
  obtain ⟨A0, n0, c0, rows0, rfl, hn0, hrd0, hd0, hm0, hrow0⟩ := open_rows (s := 1) Try.underlying34 (by kernel_rfl) (by omega) (hval 0 34 v0 rfl rfl) h0
  obtain ⟨xa, rfl⟩ := rows_str Try.underlying9 rows0 hrow0
  rw [flat_one] at hrd0
  have hn0 : xa.length = n0 := by simpa using hn0
  obtain ⟨A1, n1, c1, rows1, rfl, hn1, hrd1, hd1, hm1, hrow1⟩ := open_rows (s := 1) Try.underlying39 (by kernel_rfl) (by omega) (hval 1 39 v1 rfl rfl) h1
  obtain ⟨xb, rfl⟩ := rows_bool Try.underlying4 rows1 hrow1
  rw [flat_one] at hrd1
  have hn1 : xb.length = n1 := by simpa using hn1
  have hb := of_decide_eq_true hk
  simp only [List.append_nil, List.nil_append, List.cons_append, Rows.uptoBulkAll] at hb
  have hbk0 := bulk_strs (H := H) hd0 hn0
  have hbk1 := bulk_rows (H := H) hd1 (by simpa using hn1)
  refine (lawFeed A0 n0 c0 xa A1 n1 c1 xb W hrd0 hrd1 (by omega) (by omega) (by omega)).mono fun e W' ⟨he, hg⟩ => ?_
  subst he
  exact ⟨_, rfl, law_post laidOut hW' rfl (by kernel_rfl) ⟨rfl, rfl, rfl⟩ rfl Try.underlying4 hg.below⟩

theorem linesFeed_holds : Rows.LinesFeedUptoSaid :=
  OpenClaim.holds_of_cond 7 Try.f7 rfl rfl rfl rfl rfl rfl rfl ⟨rfl, rfl, rfl, rfl, rfl⟩ rfl rfl rfl rfl rfl (by kernel_rfl) Try.func7 (by kernel_rfl)
    (of_decide_eq_true (by kernel_rfl)) (by unfold Func.isWrapper; first | (rw [if_pos (by decide +kernel)]; kernel_rfl) | (rw [if_neg (by decide +kernel)]; exact ⟨rfl, rfl⟩))
    (fun os started H enc _ F => linesFeed_lifted os started H enc F)
end Go.Proofs.Ytmibmblebhpdfaa
