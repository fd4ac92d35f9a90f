import Derived.Test.YtmibmblebhpdfaaLawPieces
set_option linter.unusedVariables false
set_option linter.unusedSimpArgs false
namespace Go.Proofs.Ytmibmblebhpdfaa
open Go.RowKit

theorem cellsL_take (ls : List Ln) (k : Nat) : (cellsL ls).take (k * 4) = cellsL (ls.take k) := by
  by_cases h : k ≤ ls.length
  · have : cellsL ls = cellsL (ls.take k) ++ cellsL (ls.drop k) := by rw [← cellsL_append, List.take_append_drop]
    rw [this]
    exact List.take_left' (by rw [cellsL_len, List.length_take, Nat.min_eq_left h])
  · rw [List.take_of_length_le (by rw [cellsL_len]; omega), List.take_of_length_le (by omega)]
theorem cellsL_drop (ls : List Ln) (k : Nat) : (cellsL ls).drop (k * 4) = cellsL (ls.drop k) := by
  by_cases h : k ≤ ls.length
  · have : cellsL ls = cellsL (ls.take k) ++ cellsL (ls.drop k) := by rw [← cellsL_append, List.take_append_drop]
    rw [this]
    exact List.drop_left' (by rw [cellsL_len, List.length_take, Nat.min_eq_left h])
  · rw [List.drop_eq_nil_of_le (by rw [cellsL_len]; omega), List.drop_eq_nil_of_le (by omega)]; rfl

/-- What 'ended' tells: the ended lines from the k-th on, and how much is behind the last one. -/
def EndPost (w : World) (p : List UInt8) (k : Nat) (e : Ending) (w' : World) : Prop :=
  ∃ A n c, e = .returned (.tuple #[.slice A n c, .int .i64 (feedL 0 1 [] p).held.length]) ∧ Rd w' (fun j => w.heap.size ≤ j) 4 A n c (cellsL ((lns p).drop k)) ∧ n ≤ p.length ∧ Frm (fun _ => False) w w'

set_option maxHeartbeats 400000 in
theorem ended_calls (text : ByteArray) (k : Nat) (w : World) (hb : text.size ≤ 1048576) (hk : k ≤ (lns text.data.toList).length) :
    Calls Try.prog 19 #[.string text, .int .i64 k] w (EndPost w text.data.toList k) := by
  have hsm := fed_small text.data.toList
  have hts : text.data.toList.length = text.size := by simp
  have hln := lns_len text.data.toList
  have hall : ∀ x ∈ lns text.data.toList, x.ended = true := feedL_ended text.data.toList 0 1 []
  have hsp : splitL text.data.toList = lns text.data.toList ++ closeL (feedL 0 1 [] text.data.toList) := rfl
  rw [hts] at hln
  have HTS := Lib.hid hts
  have HALL := Lib.hid hall
  have HSP := Lib.hid hsp
  clear hts hall hsp
  go_enter Try.func19, Try.ntmps19
  go_wp2_with fail
  refine (ref_calls text w hb).mono ?_
  rintro e w1 ⟨v1, rfl, hv1, hf1⟩
  rw [HSP.out] at hv1
  by_cases hh : (feedL 0 1 [] text.data.toList).held = []
  · have hcl : closeL (feedL 0 1 [] text.data.toList) = [] := by simp [closeL, hh]
    rw [hcl, List.append_nil] at hv1
    obtain ⟨A1, c1, rfl⟩ := hv1.form
    have hrd := hv1.rd
    have hlen0 : (feedL 0 1 [] text.data.toList).held.length = 0 := by rw [hh]; rfl
    have HL0 := Lib.hid hlen0
    generalize hL : lns text.data.toList = L at *
    clear hcl hh hlen0
    have HL := Lib.hid hL
    clear hL
    by_cases hz : L = []
    · subst hz
      obtain rfl : k = 0 := by simpa using hk
      go_wp2_with (first | (with_reducible refine stop_at 40 rfl ?_) | (with_reducible refine stop_at 41 rfl ?_))
      unfold Stop
      refine op_min rfl _ _ _ rfl 0 0 0 rfl rfl rfl ?_
      go_wp2_with (first | (with_reducible refine stop_at 41 rfl ?_))
      unfold Stop
      refine op_from rfl _ _ _ rfl 31 4 Try.underlying26 (by kernel_rfl) A1 0 c1 rfl 0 rfl 0 rfl (by omega) (by omega) ?_
      intro ao hao
      go_wp2
      go_ret2
      refine ⟨ao, 0, c1, by rw [HL0.out]; rfl, ?_, by omega, hf1⟩
      rw [HL.out]
      have := hrd.from (k := 0) (by simp) hao
      simpa [cellsL] using this
    · have hpos : 0 < L.length := List.length_pos_iff.2 hz
      obtain ⟨x, hx⟩ : ∃ x, L[L.length - 1]? = some x := ⟨_, List.getElem?_eq_getElem (by omega)⟩
      have hxe : x.ended = true := HALL.out x (List.mem_of_getElem? hx)
      obtain ⟨b, off, rfl, l0, p0, p1, p2, p3⟩ := hrd.line _ x hx
      rw [hxe] at p3
      clear hx hz p0 p1 p2
      go_wp2_with (first | (with_reducible refine stop_at 40 rfl ?_) | (with_reducible refine stop_at 41 rfl ?_))
      unfold Stop
      refine op_min rfl _ _ _ rfl k L.length k rfl rfl (if_neg (by omega)) ?_
      go_wp2_with (first | (with_reducible refine stop_at 41 rfl ?_))
      unfold Stop
      refine op_from rfl _ _ _ rfl 31 4 Try.underlying26 (by kernel_rfl) _ _ _ rfl k rfl k rfl hk hrd.cap ?_
      intro ao hao
      go_wp2
      go_ret2
      refine ⟨ao, L.length - k, c1 - k, by rw [HL0.out]; rfl, ?_, by rw [HTS.out]; omega, hf1⟩
      rw [HL.out, ← cellsL_drop]
      exact hrd.from hk hao
  · have hcl : closeL (feedL 0 1 [] text.data.toList) = [⟨(feedL 0 1 [] text.data.toList).num, (feedL 0 1 [] text.data.toList).begin_, (feedL 0 1 [] text.data.toList).held, false⟩] := by simp [closeL, hh]
    rw [hcl] at hv1
    obtain ⟨A1, c1, rfl⟩ := hv1.form
    have hrd := hv1.rd
    generalize hL : lns text.data.toList = L at *
    generalize hR : feedL 0 1 [] text.data.toList = r at *
    have HL := Lib.hid hL
    have HR := Lib.hid hR
    clear hcl hh hL hR
    have hl1 : (L ++ [(⟨r.num, r.begin_, r.held, false⟩ : Ln)]).length = L.length + 1 := by simp
    rw [hl1] at hrd hv1
    have hx : (L ++ [(⟨r.num, r.begin_, r.held, false⟩ : Ln)])[L.length]? = some ⟨r.num, r.begin_, r.held, false⟩ := by simp
    obtain ⟨b, off, hA, l0, p0, p1, p2, p3⟩ := hrd.line _ _ hx
    cases hA
    rw [hl1]
    have hbs : (bs r.held).size = r.held.length := rfl
    clear hx hl1 p0 p1
    simp only at p2 p3
    have hup := hrd.upto (k := L.length) (by omega)
    rw [cellsL_take, List.take_left' rfl] at hup
    have hcap : L.length + 1 ≤ c1 := hrd.cap
    go_wp2_with (first | (with_reducible refine stop_at 40 rfl ?_))
    unfold Stop
    refine op_min rfl _ _ _ rfl k L.length k rfl rfl (if_neg (by omega)) ?_
    go_wp2_with (first | (with_reducible refine stop_at 41 rfl ?_))
    unfold Stop
    refine op_from rfl _ _ _ rfl 31 4 Try.underlying26 (by kernel_rfl) (some ⟨b, off, none⟩) L.length c1 rfl k rfl k rfl hk hup.cap ?_
    intro ao hao
    go_wp2
    go_ret2
    refine ⟨ao, L.length - k, c1 - k, by rw [HR.out]; rfl, ?_, by rw [HTS.out]; omega, hf1⟩
    rw [HL.out, ← cellsL_drop]
    exact hup.from hk hao
end Go.Proofs.Ytmibmblebhpdfaa
