import Derived.Test.YtmibmblebhpdfaaSpoil
set_option linter.unusedVariables false
set_option linter.unusedSimpArgs false
namespace Go.Proofs.Ytmibmblebhpdfaa
open Go.RowKit

theorem splitL_len (t : List UInt8) : (splitL t).length ≤ t.length + 1 := by
  have := feedL_small t 0 1 []
  unfold splitL closeL
  split <;> simp at this ⊢ <;> omega

set_option maxHeartbeats 400000 in
theorem lawSplit (text : ByteArray) (w : World) (hb : text.size ≤ 1048576) :
    Calls Try.prog 6 #[.string text] w fun e w' => e = .returned (.bool true) ∧ Frm (fun _ => False) w w' := by
  have hsl := splitL_len text.data.toList
  have hts : text.data.toList.length = text.size := by simp
  rw [hts] at hsl
  clear hts
  generalize hL : splitL text.data.toList = ls at hsl
  have HL := Lib.hid hL
  clear hL
  go_enter Try.func6, Try.ntmps6
  go_wp2_with fail
  refine (examples_calls w).mono ?_
  rintro e w0 ⟨rfl, hf0⟩
  go_wp2_with fail
  refine (ref_calls text w0 hb).mono ?_
  rintro e w1 ⟨v1, rfl, hv1, hf1⟩
  rw [HL.out] at hv1
  go_wp2_with fail
  refine (split_calls text w1 hb).mono ?_
  rintro e w2 ⟨v2, rfl, hv2, hf2⟩
  rw [HL.out] at hv2
  obtain ⟨A1, c1, rfl⟩ := hv1.form
  obtain ⟨A2, c2, rfl⟩ := hv2.form
  have hv1' := hv1.low.frm hf2 (fun _ _ f => f)
  go_wp2_with fail
  refine (same_calls w2 hv2.rd hv1'.rd (by omega) (by omega) true (by simp)).mono ?_
  rintro e w3 ⟨rfl, hf3⟩
  have hv2' := hv2.low.frm hf3 (fun _ _ f => f)
  have hv1'' := hv1'.frm hf3 (fun _ _ f => f)
  go_wp2_with fail
  refine (spoil_calls w3 hv2' (by omega)).mono ?_
  rintro e w4 ⟨rfl, hf4⟩
  have hv1''' := hv1''.frm hf4 (fun k h h' => by omega)
  go_wp2_with fail
  refine (split_calls text w4 hb).mono ?_
  rintro e w5 ⟨v5, rfl, hv5, hf5⟩
  rw [HL.out] at hv5
  obtain ⟨A5, c5, rfl⟩ := hv5.form
  have hv15 := hv1'''.frm hf5 (fun _ _ f => f)
  go_wp2_with fail
  refine (same_calls w5 hv5.rd hv15.rd (by omega) (by omega) true (by simp)).mono ?_
  rintro e w6 ⟨rfl, hf6⟩
  go_wp2
  go_ret
  have z0 := hf0.size
  have z1 := hf1.size
  exact ⟨rfl, (((((hf0.trans hf1).trans hf2).trans hf3).then hf4 (fun i h hi => by omega)).trans hf5).trans hf6⟩
end Go.Proofs.Ytmibmblebhpdfaa
