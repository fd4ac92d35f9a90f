/-
  Layer 20: BackNew's law, walked.
-/
import Derived.Test.YtoadmpochaeohaaBKnown
import Derived.Test.YtoadmpochaeohaaRRight
set_option linter.unusedVariables false
set_option linter.unusedSimpArgs false
set_option maxRecDepth 100000
namespace Go.Proofs.Ytoadmpochaeohaa
open Go.RowKit

set_option maxHeartbeats 8000000 in
theorem lawNewB (A : Option Addr) (n cp : Nat) (gr co : Int) (fo : Bool) (ins : List Ins) (pl : Bool) (G : Nat → Prop) (w : World) (hrd : Rd w G 10 A n cp (flatI ins)) :
    Calls Try.prog 3 #[.agg #[.slice A n cp, .int .i64 gr, .int .i64 co, .bool fo], .bool pl] w fun e w' => e = .returned (.bool true) ∧ Frm (fun _ => False) w w' := by
  have hP := Blk.new w [.slice A n cp, .int .i64 gr, .int .i64 co, .bool fo] 24
  have hf0 : Frm (fun _ => False) w (w.alloc (.cells #[.slice A n cp, .int .i64 gr, .int .i64 co, .bool fo] 24)) := (Frm.refl _ w).alloc _
  have HK := Lib.hid (knownC (w.alloc (.cells #[.slice A n cp, .int .i64 gr, .int .i64 co, .bool fo] 24)))
  have HRD := Lib.hid (hrd.frm hf0 (fun _ _ h => h))
  clear hrd
  go_enter Try.func3, Try.ntmps3
  go_upto_region 1 with fail
  generalize w.alloc (.cells #[.slice A n cp, .int .i64 gr, .int .i64 co, .bool fo] 24) = w1 at *
  obtain ⟨bP, hbP⟩ : ∃ bP, w.heap.size = bP := ⟨_, rfl⟩
  simp only [hbP] at hP ⊢
  clear hbP
  go_wp2_with fail
  refine HK.out.mono ?_
  rintro e w2 ⟨rfl, hf2⟩
  have hP2 := hP.frm hf2 (fun h => h)
  have HRD := Lib.hid (HRD.out.frm hf2 (fun _ _ h => h))
  have hff := hf0.trans hf2
  clear hP hf2 hf0 HK
  obtain ⟨x0, x1, x2, x3, y0, y1, y2, y3, lx⟩ := blk4 hP2
  by_cases hr : rightE ins gr co = 0
  · obtain ⟨r1, r2, r3, r4, r5⟩ := right_ok hr
    obtain ⟨gn, rfl⟩ := Int.eq_ofNat_of_zero_le r2.1
    obtain ⟨cn, rfl⟩ := Int.eq_ofNat_of_zero_le r3.1
    have HN := Lib.hid (newOk A n cp gn cn fo pl ins G w2 HRD.out hr)
    have HR := Lib.hid hr
    clear r1 r2 r3 r4 r5 hr
    go_wp2_with fail
    refine HN.out.mono ?_
    rintro e w3 ⟨b, st, t, D, rfl, hI3, _, _, hb, hD, hf3⟩
    have hP3 := hP2.frm hf3 (fun h => h)
    have HRR := Lib.hid (refRight A n cp gn cn fo ins G w3 (HRD.out.frm hf3 (fun _ _ h => h)))
    rw [HR.out] at HRR
    have hff3 := hff.trans hf3
    have HI := Lib.hid hI3
    clear x0 x1 x2 x3 y0 y1 y2 y3 lx hP2 hf3 hff HN hI3 hD
    obtain ⟨x0, x1, x2, x3, y0, y1, y2, y3, lx⟩ := blk4 hP3
    go_wp2_with fail
    refine HRR.out.mono ?_
    rintro e w4 ⟨⟨kk, rfl⟩, hf4⟩
    obtain ⟨sv, pv, l0, hB⟩ := HI.out.obj
    have hB4 := hB.frm hf4 (fun h => h)
    have HKP := Lib.hid (keptC b _ _ w4 hB4 rfl)
    have HST := Lib.hid (stepsC b _ _ w4 hB4 rfl)
    have hff4 := hff3.trans hf4
    clear x0 x1 x2 x3 y0 y1 y2 y3 lx hP3 hf4 hff3 HRR hB hB4
    go_wp2_with fail
    refine HST.out.mono ?_
    rintro e w5 ⟨rfl, rfl⟩
    go_wp2_with fail
    refine HKP.out.mono ?_
    rintro e w5 ⟨rfl, rfl⟩
    go_wp2_with fail
    go_ret
    exact ⟨rfl, hff4⟩
  · have HN := Lib.hid (newBad A n cp gr co fo pl ins G w2 HRD.out hr)
    obtain ⟨re, hre⟩ : ∃ re, rightE ins gr co = re := ⟨_, rfl⟩
    rw [hre] at hr HN
    have HRE := Lib.hid hre
    have d1 : (re != 0) = true := by simpa using hr
    clear hre
    go_wp2_with fail
    refine HN.out.mono ?_
    rintro e w3 ⟨rfl, hf3⟩
    have hP3 := hP2.frm hf3 (fun h => h)
    have HRR := Lib.hid (refRight A n cp gr co fo ins G w3 (HRD.out.frm hf3 (fun _ _ h => h)))
    rw [HRE.out] at HRR
    have hff3 := hff.trans hf3
    clear x0 x1 x2 x3 y0 y1 y2 y3 lx hP2 hf3 hff HN
    obtain ⟨x0, x1, x2, x3, y0, y1, y2, y3, lx⟩ := blk4 hP3
    go_wp2_with fail
    refine HRR.out.mono ?_
    rintro e w4 ⟨⟨kk, rfl⟩, hf4⟩
    have hff4 := hff3.trans hf4
    clear x0 x1 x2 x3 y0 y1 y2 y3 lx hP3 hf4 hff3 HRR
    go_wp2_with fail
    go_ret
    exact ⟨rfl, hff4⟩
end Go.Proofs.Ytoadmpochaeohaa
