import Derived.Test.YtmibmblebhpdfaaSplit
set_option linter.unusedVariables false
set_option linter.unusedSimpArgs false
namespace Go.Proofs.Ytmibmblebhpdfaa
open Go.RowKit

/-- What holds at the head of each round of the reference's Split. -/
structure RefInv (text : ByteArray) (w : World) (i : Nat) (v : Value) (at_ : Int) (wr : World) : Prop where
  le : i ≤ text.size
  at_ : at_ = (feedL 0 1 [] (text.data.toList.take i)).begin_
  sl : Sl wr (fun k => w.heap.size ≤ k) 31 4 v (feedL 0 1 [] (text.data.toList.take i)).lines.length (cellsL (feedL 0 1 [] (text.data.toList.take i)).lines)
  frm : Frm (fun _ => False) w wr

theorem take_snoc (s : ByteArray) (k : Nat) (h : k < s.size) : s.data.toList.take (k + 1) = s.data.toList.take k ++ [s[k]] := by
  rw [List.take_succ_eq_append_getElem (by simpa using h)]; rfl

set_option maxHeartbeats 400000 in
theorem ref_calls (text : ByteArray) (w : World) (hb : text.size ≤ 1048576) :
    Calls Try.prog 15 #[.string text] w (LinesPost w (splitL text.data.toList)) := by
  go_enter Try.func15, Try.ntmps15
  go_wp2
  go_loopw [3, 4, 5] (fun v t i wr => ∃ (k m : Nat), i = .int .i64 k ∧ t = .int .i64 m ∧ RefInv text w k v m wr) (fun _ _ i _ => text.size - (intOf i).toNat)
  case atStart => exact ⟨0, 0, rfl, rfl, by omega, by simp [feedL], by simpa [feedL, cellsL] using Sl.nil (F := fun k => w.heap.size ≤ k), Frm.refl _ _⟩
  case round =>
    obtain ⟨k, m, rfl, rfl, hI⟩ := hrel
    have hle := hI.le
    have hsm := feedL_small (text.data.toList.take k) 0 1 []
    have hbg := feedL_begin (text.data.toList.take k) 0 1 []
    have hnm := feedL_num (text.data.toList.take k) 0 1 []
    obtain ⟨hb0, hhd⟩ := feedL_held0 (text.data.toList.take k)
    have hsl := hI.sl
    obtain ⟨A3, c3, rfl⟩ := hsl.form
    have hat := hI.at_
    have htl : (text.data.toList.take k).length = k := by simp; omega
    have hsz := hI.frm.size
    have hfr := hI.frm
    simp only [htl, List.length_nil, Int.natCast_zero, Int.zero_add, Nat.zero_add] at hsm hbg
    generalize hr : feedL 0 1 [] (text.data.toList.take k) = r at *
    rw [← hat, Int.toNat_natCast] at hhd
    have hx : text.extract m k = bs r.held := by
      rw [← bs_data (text.extract m k), ext_data, hhd]
    have HR := Lib.hid hr
    have HAT := Lib.hid hat
    have HX := Lib.hid hx
    have HNM := Lib.hid hnm
    have HBG := Lib.hid hbg
    have hak : m ≤ k := by omega
    clear hr hat hhd hnm hbg htl hx
    by_cases hlt : k < text.size
    · have hsn := feedL_snoc (text.data.toList.take k) text[k] 0 1 []
      rw [← take_snoc text k hlt, HR.out] at hsn
      by_cases hc : text[k] = 10
      · rw [if_pos hc] at hsn
        have HSN := Lib.hid hsn
        have hcb : ((text[k].toNat : Int) == 10) = true := by rw [hc]; rfl
        clear hsn hc
        go_wp2_with (with_reducible refine stop_at 27 rfl ?_)
        unfold Stop
        refine op_append rfl _ _ _ rfl 31 _ 4 40 Try.underlying26 infoLn rfl (by omega) (hsl.alloc _) rfl ⟨wr.heap.size, 0, none⟩ 1 1 [.int .i64 (r.lines.length + 1), .int .i64 m, .string (text.extract m k), .bool true] rfl rfl (fun j u hu => by rw [(Blk.new wr _ 31).cellAdd 0 j, Nat.zero_add]; exact hu) (by intro u hu; simp at hu; rcases hu with rfl | rfl | rfl | rfl <;> rfl) (by simp only [maxLen]; omega) (by omega) ?_
        intro v' w3 hf3 hs3
        go_wp2
        go_roundw
        case measure => simp [intOf]; omega
        case rel =>
          refine ⟨k + 1, k + 1, by go_num, by go_num, by omega, ?_, ?_, ?_⟩
          · rw [HSN.out]; have := HBG.out; have := HAT.out; simp; omega
          · rw [HSN.out, List.length_append, cellsL_append, cellsL_one]
            have e1 : Ln.cells ⟨r.num, r.begin_, r.held, true⟩ = [.int .i64 (r.lines.length + 1), .int .i64 m, .string (text.extract m k), .bool true] := by
              simp only [Ln.cells]; rw [HX.out, HNM.out, ← HAT.out, Int.add_comm]
            rw [e1]
            exact hs3.mono (by rintro j (h | h) _; exact h; simp at h; omega)
          · exact (hfr.alloc _).then hf3 (fun i h hi => by omega)
      · rw [if_neg hc] at hsn
        have HSN := Lib.hid hsn
        have hcb : ((text[k].toNat : Int) == 10) = false := by
          rw [beq_eq_false_iff_ne]; intro e; exact hc (UInt8.toNat_inj.1 (by rw [show (10 : UInt8).toNat = 10 from rfl]; omega))
        clear hsn hc
        go_wp2
        go_roundw
        case rel => exact ⟨k + 1, m, by go_num, rfl, by omega, by rw [HSN.out]; exact HAT.out, by rw [HSN.out]; exact hsl, hfr⟩
        case measure => simp [intOf]; omega
    · obtain rfl : k = text.size := by omega
      have hall : text.data.toList.take text.size = text.data.toList := List.take_of_length_le (by simp)
      have hsp : splitL text.data.toList = r.lines ++ closeL r := by rw [splitL, ← hall, HR.out]
      have HSP := Lib.hid hsp
      clear hall hsp
      by_cases hal : m < text.size
      · have hne : r.held ≠ [] := by
          intro h; have h1 := HBG.out; have h2 := HAT.out; rw [h] at h1; simp at h1; omega
        have HCL : Hid (closeL r = [⟨r.num, r.begin_, r.held, false⟩]) := Lib.hid (by simp [closeL, hne])
        clear hne
        go_wp2_with (with_reducible refine stop_at 44 rfl ?_)
        unfold Stop
        refine op_append rfl _ _ _ rfl 31 _ 4 40 Try.underlying26 infoLn rfl (by omega) (hsl.alloc _) rfl ⟨wr.heap.size, 0, none⟩ 1 1 [.int .i64 (r.lines.length + 1), .int .i64 m, .string (text.extract m text.size), .bool false] rfl rfl (fun j u hu => by rw [(Blk.new wr _ 31).cellAdd 0 j, Nat.zero_add]; exact hu) (by intro u hu; simp at hu; rcases hu with rfl | rfl | rfl | rfl <;> rfl) (by simp only [maxLen]; omega) (by omega) ?_
        intro v' w3 hf3 hs3
        go_wp2
        go_ret
        refine ⟨_, rfl, ?_, (hfr.alloc _).then hf3 (fun i h hi => by omega)⟩
        rw [HSP.out, HCL.out, List.length_append, cellsL_append, cellsL_one]
        have e1 : Ln.cells ⟨r.num, r.begin_, r.held, false⟩ = [.int .i64 (r.lines.length + 1), .int .i64 m, .string (text.extract m text.size), .bool false] := by
          simp only [Ln.cells]; rw [HX.out, HNM.out, ← HAT.out, Int.add_comm]
        rw [e1]
        exact hs3.mono (by rintro j (h | h) _; exact h; simp at h; omega)
      · have hne : r.held = [] := by
          have h1 := HBG.out; have h2 := HAT.out; exact List.eq_nil_of_length_eq_zero (by omega)
        have HCL : Hid (closeL r = []) := Lib.hid (by simp [closeL, hne])
        clear hne
        go_wp2
        go_ret
        refine ⟨_, rfl, ?_, hfr⟩
        rw [HSP.out, HCL.out, List.append_nil]
        exact hsl
end Go.Proofs.Ytmibmblebhpdfaa
