/-
  NfaEmpty, walked: it answers true.
-/
import Derived.Test.YtamiliccnbkipaaNKnown
import Derived.Test.YtamiliccnbkipaaNHas
import Derived.Test.YtamiliccnbkipaaNEmptyP
set_option linter.unusedVariables false
set_option linter.unusedSimpArgs false
namespace Go.Proofs.Ytamiliccnbkipaa
open Go.RowKit

theorem toList_len (b : ByteArray) : b.toList.length = b.size := by rw [ByteArray.toList_eq]; simp
theorem no_op {l : List Ins} {op : Int} (h : hasOp l op = false) : ∀ (k : Nat) (i : Ins), l[k]? = some i → i.op ≠ op := by
  intro k i hi e
  rw [hasOp, List.any_eq_false] at h
  exact h i (List.mem_of_getElem? hi) (by simp [e])
theorem begin_zero {l : List Ins} {gr co : Int} {line : ByteArray} {at_ : Int} (h : beginE l gr co line at_ = 0) (line2 : ByteArray) (a : Int) (h0 : 0 ≤ a) (h1 : a ≤ line2.size) : beginE l gr co line2 a = 0 := by
  unfold beginE at *
  split at h
  · rename_i h2; exact absurd h h2
  · rename_i h2
    rw [if_neg h2]
    split at h
    · cases h
    · rename_i h3
      rw [if_neg h3, if_neg (by omega)]

set_option maxHeartbeats 4000000 in
set_option maxRecDepth 100000 in
theorem lawE (A : Option Addr) (n cp : Nat) (gr co : Int) (fo : Bool) (ins : List Ins) (line : ByteArray) (at_ : Int) (W : World) (hrd : Rd W (fun _ => True) 10 A n cp (flatI ins)) (hcp : cp ≤ maxLen) (hline : line.size ≤ maxLen) :
    Calls Try.prog 8 #[.agg #[.slice A n cp, .int .i64 gr, .int .i64 co, .bool fo], .string line, .int .i64 at_] W fun e W' => e = .returned (.bool true) ∧ Frm (fun _ => False) W W' := by
  have hn : n ≤ 9223372036854775807 := Nat.le_trans hrd.cap (by simpa [maxLen] using hcp)
  have hl : line.size ≤ 9223372036854775807 := by simpa [maxLen] using hline
  have hf0 : Frm (fun _ => False) W (W.alloc (.cells #[.slice A n cp, .int .i64 gr, .int .i64 co, .bool fo] 24)) := (Frm.refl _ W).alloc _
  have hP := Blk.new W [.slice A n cp, .int .i64 gr, .int .i64 co, .bool fo] 24
  have hr0 := hrd.frm hf0 (fun _ _ h => h)
  go_enter Try.func8, Try.ntmps8
  go_upto_region 1 with fail
  generalize W.alloc (.cells #[.slice A n cp, .int .i64 gr, .int .i64 co, .bool fo] 24) = w1 at *
  go_wp2_with fail
  refine (knownC w1).mono ?_
  rintro e w2 ⟨rfl, hf2⟩
  have hP2 := hP.frm hf2 (fun h => h)
  have HH := Lib.hid (hasOpC A n cp gr co fo ins (fun _ => True) 1 w2 (hr0.frm hf2 (fun _ _ h => h)) hn)
  obtain ⟨c0, c1, c2, c3, g0, g1, g2, g3, l0⟩ := blk4 hP2
  go_wp2_with fail
  refine HH.out.mono ?_
  rintro e w3 ⟨rfl, hf3⟩
  have hP3 := hP2.frm hf3 (fun h => h)
  have hr3 := (hr0.frm hf2 (fun _ _ h => h)).frm hf3 (fun _ _ h => h)
  have HL := Lib.hid (longC A n cp gr co fo ins (fun _ => True) line at_ w3 hr3 hl)
  clear c0 c1 c2 c3 g0 g1 g2 g3 l0
  obtain ⟨c0, c1, c2, c3, g0, g1, g2, g3, l0⟩ := blk4 hP3
  go_wp2_with fail
  refine HL.out.mono ?_
  rintro e w4 ⟨hf4, ⟨hne, rfl⟩ | ⟨hz, st, rfl, _⟩⟩
  · have t1 : (beginE ins gr co line at_ != 0) = true := by simpa using hne
    have hfin := ((hf0.trans hf2).trans hf3).trans hf4
    clear hne
    go_wp2_with fail
    go_ret
    exact ⟨rfl, hfin⟩
  · have hP4 := hP3.frm hf4 (fun h => h)
    cases hh : hasOp ins 1 with
    | true =>
      have hfin := ((hf0.trans hf2).trans hf3).trans hf4
      go_wp2_with fail
      go_ret
      exact ⟨rfl, hfin⟩
    | false =>
      obtain ⟨hfi, a, rfl, ha⟩ := begin_fine hz
      have hb0 := begin_zero hz ⟨#[]⟩ 0 (by omega) (by decide)
      have hla := empty_law ins hfi (no_op hh) line.toList a (by rw [toList_len]; exact ha)
      rw [Int.toNat_natCast]
      have HL2 := Lib.hid (longC A n cp gr co fo ins (fun _ => True) ⟨#[]⟩ 0 w4 (hr3.frm hf4 (fun _ _ h => h)) (by decide))
      generalize findS ins line.toList a false = r at *
      have HZ := Lib.hid hb0
      clear hz hb0 hh c0 c1 c2 c3 g0 g1 g2 g3 l0
      obtain ⟨c0, c1, c2, c3, g0, g1, g2, g3, l0⟩ := blk4 hP4
      go_wp2_with fail
      refine HL2.out.mono ?_
      rintro e w5 ⟨hf5, ⟨hne, _⟩ | ⟨_, st2, rfl, _⟩⟩
      · exact absurd HZ.out hne
      · have hfin := (((hf0.trans hf2).trans hf3).trans hf4).trans hf5
        rw [show ByteArray.toList ⟨#[]⟩ = [] by rw [ByteArray.toList_eq], show (0 : Int).toNat = 0 from rfl]
        rcases hla with rfl | ⟨⟨g, rfl⟩, he⟩
        · simp only [Option.isSome_none]
          go_wp2_with fail
          go_ret
          exact ⟨rfl, hfin⟩
        · rw [he]
          have hbt : bestT (some (g, (a : Int))) = (a : Int) := rfl
          rw [hbt]
          simp only [Option.isSome_some]
          go_wp2_with fail
          go_ret
          exact ⟨rfl, hfin⟩
end Go.Proofs.Ytamiliccnbkipaa
