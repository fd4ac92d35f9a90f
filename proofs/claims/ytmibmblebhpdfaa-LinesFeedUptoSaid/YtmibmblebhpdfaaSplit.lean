import Derived.Test.YtmibmblebhpdfaaClose
import Derived.Laws.StructEq
set_option linter.unusedVariables false
set_option linter.unusedSimpArgs false
namespace Go.Proofs.Ytmibmblebhpdfaa
open Go.RowKit

theorem cellsL_one' (ls : List Ln) : ∀ u ∈ cellsL ls, u.oneCell' = true := by
  intro u hu
  obtain ⟨l, _, hu⟩ := List.mem_flatMap.1 hu
  simp [Ln.cells] at hu
  rcases hu with rfl | rfl | rfl | rfl <;> rfl
theorem new_calls (w : World) : Calls Try.prog 9 #[] w fun e w' => e = .returned (.pointer (some ⟨w.heap.size, 0, none⟩)) ∧ w' = w.alloc (.cells #[.slice none 0 0, .int .i64 0, .int .i64 1] 45) := by
  go_enter Try.func9, Try.ntmps9
  go_wp2
  go_ret
  exact ⟨rfl, rfl⟩
theorem new_spl (w : World) : Spl (w.alloc (.cells #[.slice none 0 0, .int .i64 0, .int .i64 1] 45)) (fun k => k = w.heap.size) w.heap.size [] 0 1 := ⟨_, Blk.new w [_, _, _] 45, rfl, Sl.nil⟩
theorem at_calls (F : Nat → Prop) (g : Nat) (held : List UInt8) (at_ num : Int) (w : World) (h : Spl w F g held at_ num) : Calls Try.prog 14 #[.pointer (some ⟨g, 0, none⟩)] w fun e w' => e = .returned (.int .i64 at_) ∧ w = w' := by
  obtain ⟨v, hB, hF, hS⟩ := h
  obtain ⟨c0, c1, c2, f0, f1, f2, l0⟩ := blk3 hB
  go_enter Try.func14, Try.ntmps14
  go_wp2
  go_ret
  exact ⟨rfl, rfl⟩
theorem held_calls (F : Nat → Prop) (g : Nat) (held : List UInt8) (at_ num : Int) (w : World) (h : Spl w F g held at_ num) : Calls Try.prog 18 #[.pointer (some ⟨g, 0, none⟩)] w fun e w' => e = .returned (.int .i64 held.length) ∧ w = w' := by
  obtain ⟨v, hB, hF, hS⟩ := h
  obtain ⟨A, c, rfl⟩ := hS.form
  obtain ⟨c0, c1, c2, f0, f1, f2, l0⟩ := blk3 hB
  go_enter Try.func18, Try.ntmps18
  go_wp2
  go_ret
  exact ⟨rfl, rfl⟩

/-- Lines that came, in blocks of their own. -/
def LinesPost (w : World) (ls : List Ln) (e : Ending) (w' : World) : Prop :=
  ∃ v, e = .returned v ∧ Sl w' (fun k => w.heap.size ≤ k) 31 4 v ls.length (cellsL ls) ∧ Frm (fun _ => False) w w'

set_option maxHeartbeats 400000 in
theorem split_calls (text : ByteArray) (w : World) (hb : text.size ≤ 1048576) :
    Calls Try.prog 13 #[.string text] w (LinesPost w (splitL text.data.toList)) := by
  have hsm := feedL_small text.data.toList 0 1 []
  have hbg := feedL_begin text.data.toList 0 1 []
  have hnm := feedL_num text.data.toList 0 1 []
  have hts : text.data.toList.length = text.size := by simp
  simp only [List.length_nil, Nat.zero_add, hts] at hsm
  simp only [List.length_nil, hts, Int.zero_add, Int.natCast_zero] at hbg
  go_enter Try.func13, Try.ntmps13
  go_wp2_with (go_at_call 9; refine (new_calls _).mono ?_; rintro e w' ⟨rfl, rfl⟩)
  refine (feed_calls (fun k => k = w.heap.size) w.heap.size [] 0 1 text _ (new_spl w) (by simp; omega) (by omega) (by omega) (by simp) (by omega)).mono ?_
  rintro e w1 ⟨v1, F1, F2, rfl, hv1, hs1, hf1, hF1, hF2, hF12⟩
  simp only [List.length_nil, Int.natCast_zero, Int.sub_zero, Int.zero_add] at hv1 hs1
  generalize hr : feedL 0 1 [] text.data.toList = r at *
  have HR := Lib.hid hr
  have hn0 : 0 ≤ r.num := by omega
  have hn1 : r.num ≤ 1152921504606846976 := by omega
  have hb2 : (text.size : Int) - r.held.length = r.begin_ := by omega
  have HB := Lib.hid hb2
  clear hr hnm hbg hb2
  go_wp2_with fail
  refine (close_calls (fun k => F1 k ∧ k < w1.heap.size) w.heap.size r.held text.size r.num w1 hs1.low (by omega) (by omega) (by omega) (by omega) (by omega)).mono ?_
  rintro e w2 ⟨v2, G1, G2, rfl, hv2, hs2, hf2, hG1, hG2, hG12⟩
  rw [HB.out] at hv2
  have hv1' := hv1.low.frm hf2 (fun k h h' => hF12 k h'.1 h.1)
  obtain ⟨A2, c2, rfl⟩ := hv2.form
  go_wp2_with (with_reducible refine stop_at 10 rfl ?_)
  unfold Stop
  have hcl : (closeL ⟨[], r.held, r.num, r.begin_⟩).length ≤ 1 := by unfold closeL; split <;> simp
  refine op_appendRd rfl _ _ _ rfl 31 _ 4 40 Try.underlying26 infoLn rfl (by omega) hv1' rfl hv2.rd rfl (cellsL_one' _) (by simp only [maxLen]; omega) (by omega) ?_
  intro v3 w3 hf3 hs3
  go_wp2
  go_ret
  have hz1 := hf1.size
  have hz2 := hf2.size
  simp at hz1
  have hsp : splitL text.data.toList = r.lines ++ closeL ⟨[], r.held, r.num, r.begin_⟩ := by rw [splitL, HR.out]; rfl
  rw [hsp]
  refine ⟨_, rfl, ?_, ?_⟩
  · rw [List.length_append, cellsL_append]
    exact hs3.mono (by rintro k (h | h) _; exact (by have := hF2 k h.1; simp at this; omega); omega)
  · exact ((((Frm.refl (fun _ => False) w).alloc _).then hf1 (fun i h hi => by omega)).then hf2 (fun i h hi => (hF1 i h.1).elim (by omega) (by simp; omega))).then hf3 (fun i h hi => absurd (hF2 i h.1) (by simp; omega))
end Go.Proofs.Ytmibmblebhpdfaa
