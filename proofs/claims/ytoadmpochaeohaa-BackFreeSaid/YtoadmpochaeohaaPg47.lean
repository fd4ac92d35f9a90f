/-
  Layer 20: BackFree's law, walked.
-/
import Derived.Test.YtoadmpochaeohaaPg46
import Derived.Laws.StructEq
section
set_option linter.unusedVariables false
set_option linter.unusedSimpArgs false
set_option maxRecDepth 100000
namespace Go.Proofs.Ytoadmpochaeohaa
open Go.RowKit

attribute [local go_sem high] run_eqSpanF
attribute [local go_sem] eqGuard50
theorem span_form (q : Option (Nat × Nat)) : ∃ x y : Int, spanV q = .agg #[.int .i64 x, .int .i64 y] := by
  rcases q with _ | ⟨x, y⟩
  · exact ⟨0, 0, rfl⟩
  · exact ⟨x, y, rfl⟩
set_option maxHeartbeats 16000000 in
theorem lawFreeB (A : Option Addr) (n cp : Nat) (gr co : Int) (fo pl : Bool) (ins : List Ins) (line0 : ByteArray) (G : Nat → Prop) (w : World) (hrd : Rd w G 10 A n cp (flatI ins)) (hok : ∀ i ∈ ins, i.ok) (hn : n ≤ 9223372036854775807) :
    Calls Try.prog 10 #[.agg #[.slice A n cp, .int .i64 gr, .int .i64 co, .bool fo], .string line0, .bool pl] w fun e w' => e = .returned (.bool true) ∧ Frm (fun _ => False) w w' := by
  have hP := Blk.new w [.slice A n cp, .int .i64 gr, .int .i64 co, .bool fo] 24
  have hf0 : Frm (fun _ => False) w (w.alloc (.cells #[.slice A n cp, .int .i64 gr, .int .i64 co, .bool fo] 24)) := (Frm.refl _ w).alloc _
  have HK := Lib.hid (knownC (w.alloc (.cells #[.slice A n cp, .int .i64 gr, .int .i64 co, .bool fo] 24)))
  have HRD := Lib.hid (hrd.low.frm hf0 (fun _ _ h => h))
  have HOK := Lib.hid hok
  clear hrd hok
  go_enter Try.func10, Try.ntmps10
  go_upto_region 1 with fail
  generalize w.alloc (.cells #[.slice A n cp, .int .i64 gr, .int .i64 co, .bool fo] 24) = w1 at *
  obtain ⟨bP, hbP⟩ : ∃ bP, w.heap.size = bP := ⟨_, rfl⟩
  simp only [hbP] at hP HRD ⊢
  have HBP := Lib.hid hbP
  clear hbP
  go_wp2_with fail
  refine HK.out.mono ?_
  rintro e w2 ⟨rfl, hf2⟩
  have hP2 := hP.frm hf2 (fun h => h)
  have HRD := Lib.hid (HRD.out.frm hf2 (fun _ _ h => h))
  have hff := hf0.trans hf2
  clear hP hf2 hf0 HK
  obtain ⟨x0, x1, x2, x3, y0, y1, y2, y3, lx⟩ := blk4 hP2
  have HFR := Lib.hid (refFreeB A n cp gr co fo ins _ w2 HRD.out hn)
  obtain ⟨fb, hfb⟩ : ∃ fb, freeB ins = fb := ⟨_, rfl⟩
  rw [hfb] at HFR
  have HFB := Lib.hid hfb
  clear hfb hn
  go_wp2_with fail
  refine HFR.out.mono ?_
  rintro e w3 ⟨rfl, hf3⟩
  have hP3 := hP2.frm hf3 (fun h => h)
  have HRD := Lib.hid (HRD.out.frm hf3 (fun _ _ h => h))
  have hff3 := hff.trans hf3
  clear x0 x1 x2 x3 y0 y1 y2 y3 lx hP2 hf3 hff HFR
  obtain ⟨x0, x1, x2, x3, y0, y1, y2, y3, lx⟩ := blk4 hP3
  by_cases hr : rightE ins gr co = 0
  · obtain ⟨r1, r2, r3, r4, r5⟩ := right_ok hr
    obtain ⟨gn, rfl⟩ := Int.eq_ofNat_of_zero_le r2.1
    obtain ⟨cn, rfl⟩ := Int.eq_ofNat_of_zero_le r3.1
    have HN := Lib.hid (newOk A n cp gn cn fo pl ins _ w3 HRD.out hr)
    have HR := Lib.hid (⟨hr, r4⟩ : _ ∧ _)
    clear r1 r2 r3 r4 r5 hr
    go_wp2_with fail
    refine HN.out.mono ?_
    rintro e w4 ⟨b, st, t, D, rfl, hI4, hst, hsh, hb, hD, hf4⟩
    have hP4 := hP3.frm hf4 (fun h => h)
    have hrd4 := HRD.out.frm hf4 (fun _ _ h => h)
    have hff4 := hff3.trans hf4
    have hg := hff3.size
    have hlbP := hP3.lt
    have hz4 := hf4.size
    have hlb : b < w4.heap.size := by obtain ⟨_, _, _, h⟩ := hI4.obj; exact h.lt
    clear x0 x1 x2 x3 y0 y1 y2 y3 lx hP3 hf4 hff3 HN
    change Idle w4 D b st (mOf ins gn cn fo pl t) 0 0 at hI4
    cases fb with
    | false =>
      clear hI4 hst hsh hD hP4 hrd4
      go_wp2_with fail
      go_ret
      exact ⟨rfl, hff4⟩
    | true =>
      obtain ⟨x0, x1, x2, x3, y0, y1, y2, y3, lx⟩ := blk4 hP4
      obtain ⟨m, hm⟩ : ∃ m, min line0.size 24 = m := ⟨_, rfl⟩
      have hmin : ∀ (w : World) (ty : TypeId), (Builtin.min_ #[3, 3] ty #[.int .i64 line0.size, .int .i64 24]).run Try.prog w = .ok (.int .i64 m) w := fun w ty => by
        have hm2 : (if (24 : Int) < line0.size then (24 : Int) else line0.size) = m := by rw [← hm, Nat.min_def]; split <;> split <;> omega
        simp [Builtin.min_, Builtin.min2, hm2]
      have hm1 : m ≤ line0.size := by omega
      have hls : (line0.extract 0 m).size = m := by rw [ByteArray.size_extract]; omega
      have hm24 : m ≤ 24 := by omega
      have hlf : (line0.extract 0 m).toList.length = m := by rw [ba_lenF]; exact hls
      clear hm
      rcases pl with _ | _
      focus
        obtain ⟨F, hF, ho⟩ := free_all (pl := false) (fo := fo) (co := cn) (L := (line0.extract 0 m).toList) HR.out.1 HFB.out (by omega) hst (fun h => by cases h)
        have hTT : ∃ T, OneT w (line0.extract 0 m) b bP w4.heap.size A n cp gn cn fo (oF ins (line0.extract 0 m).toList) T ∧ T w4 0 := by
          refine ⟨_, one_T (D := fun k => D k ∧ k < w4.heap.size) (G := fun k => ((G k ∧ k < bP) ∧ k < w4.heap.size)) (st := st) (by omega) (new_MW HR.out.1 hsh) HR.out.2
            (fun k h => ⟨by have := hD k h.1; omega, h.2⟩) (fun k h => ⟨by omega, h.2⟩) hlb (by omega) (by omega) (by omega) hF HR.out.1 HFB.out (fun a ha => ho a (by omega)), ?_⟩
          exact ⟨0, 0, hI4.low, hP4, hrd4.low, Nat.le_refl _, by omega, hff4, Nat.le_refl _⟩
        obtain ⟨T, hTT, h0⟩ := hTT
        have HT := Lib.hid hTT
        have HT0 := Lib.hid h0
        generalize w4.heap.size = B at HT
        clear hTT h0 ho hI4 hst hsh hD hb hlb hg hz4 hrd4 hff4 hlbP HBP HRD HFB HR hF
        go_upto_region 12 with fail
        clear x0 x1 x2 x3 y0 y1 y2 y3 lx hmin hP4 HOK
      rotate_left
      focus
        have HTM := Lib.hid (tameC A n cp gn cn fo ins (line0.extract 0 m) 0 _ w4 hrd4 HR.out.1 HOK.out (Nat.zero_le _) (by omega))
        go_wp2_with fail
        refine HTM.out.mono ?_
        rintro e w5 ⟨hres, hf5⟩
        have hff5 := hff4.trans hf5
        rcases hres with rfl | ⟨rfl, htame⟩
        · go_wp2_with fail
          go_ret
          exact ⟨rfl, hff5⟩
        have hz5 := hf5.size
        obtain ⟨F, hF, ho⟩ := free_all (pl := true) (fo := fo) (co := cn) (L := (line0.extract 0 m).toList) HR.out.1 HFB.out (by omega) hst (fun _ => htame)
        have hTT : ∃ T, OneT w (line0.extract 0 m) b bP w4.heap.size A n cp gn cn fo (oF ins (line0.extract 0 m).toList) T ∧ T w5 0 := by
          refine ⟨_, one_T (D := fun k => D k ∧ k < w4.heap.size) (G := fun k => ((G k ∧ k < bP) ∧ k < w4.heap.size)) (st := st) (by omega) (new_MW HR.out.1 hsh) HR.out.2
            (fun k h => ⟨by have := hD k h.1; omega, h.2⟩) (fun k h => ⟨by omega, h.2⟩) hlb (by omega) (by omega) (by omega) hF HR.out.1 HFB.out (fun a ha => ho a (by omega)), ?_⟩
          exact ⟨0, 0, hI4.low.frm hf5 (fun h => h) (fun _ _ h => h), hP4.frm hf5 (fun h => h), hrd4.low.frm hf5 (fun _ _ h => h), Nat.le_refl _, by omega, hff5, hz5⟩
        obtain ⟨T, hTT, h0⟩ := hTT
        have HT := Lib.hid hTT
        have HT0 := Lib.hid h0
        generalize w4.heap.size = B at HT
        clear hTT h0 ho hI4 hst hsh hD hb hlb hg hz4 hrd4 hff4 hlbP HBP HRD HFB HR hF hff5 hf5 htame hz5 HTM
        go_upto_region 12 with fail
        clear x0 x1 x2 x3 y0 y1 y2 y3 lx hmin hP4 HOK
      all_goals
        clear hm1
        generalize oF ins (line0.extract 0 m).toList = o at *
        generalize line0.extract 0 m = line at *
        subst hls
        clear hlf
        go_wp2_with fail
        go_loopw [12] (fun i wr => FrL T line.size i wr) (fun i _ => line.size + 1 - (intOf i).toNat)
        case atStart => exact ⟨0, 0, rfl, by omega, by omega, HT0.out⟩
        case round =>
          clear HT0
          obtain ⟨k, S, rfl, hk, hS, hT⟩ := hrel
          by_cases hkl : k ≤ line.size
          · have d1 : decide ((k : Int) ≤ (line.size : Int)) = true := decide_eq_true (by omega)
            have hS1 : S ≤ 10000000000 := by omega
            have HL1 := Lib.hid (HT.out.l1 _ _ k hT (by omega) hkl)
            obtain ⟨q, hq⟩ : ∃ q, firstO o (line.size + 1 - k) k = q := ⟨_, rfl⟩
            obtain ⟨oa, hoa⟩ : ∃ oa, o k = oa := ⟨_, rfl⟩
            obtain ⟨sx, sy, hsp⟩ := span_form q
            obtain ⟨qb, hqb⟩ : ∃ qb, q.isSome = qb := ⟨_, rfl⟩
            obtain ⟨ob, hob⟩ : ∃ ob, oa.isSome = ob := ⟨_, rfl⟩
            obtain ⟨on, hon⟩ : ∃ on, oa.getD 0 = on := ⟨_, rfl⟩
            rw [hoa, hob, hon] at HL1
            have HQ := Lib.hid (⟨hq, hoa, hsp, hqb, hob, hon⟩ : _ ∧ _ ∧ _ ∧ _ ∧ _ ∧ _)
            clear hq hoa hsp hqb hob hon hT
            go_wp2_with fail
            refine HL1.out.mono ?_
            rintro e w6 ⟨rfl, hT6, hf6⟩
            have HL2 := Lib.hid (HT.out.l2 _ _ k hT6 hkl)
            rw [HQ.out.2.1, HQ.out.2.2.2.2.1, HQ.out.2.2.2.2.2] at HL2
            obtain ⟨x0, x1, x2, x3, y0, y1, y2, y3, lx⟩ := blk4 (HT.out.blk _ _ hT6)
            clear hT6 hf6 HL1
            go_wp2_with fail
            refine HL2.out.mono ?_
            rintro e w7 ⟨st7, rfl, hT7, hf7⟩
            have HF1 := Lib.hid (HT.out.f1 _ _ k hT7 (by omega) hkl)
            rw [HQ.out.1, HQ.out.2.2.1, HQ.out.2.2.2.1] at HF1
            clear hT7 hf7 HL2 x0 x1 x2 x3 y0 y1 y2 y3 lx
            go_wp2_with fail
            refine HF1.out.mono ?_
            rintro e w8 ⟨rfl, hT8, hf8⟩
            have HT8 := Lib.hid hT8
            clear hT8 hf8 HF1
            go_upto_region 19 with fail
            have hX9 := Blk.new w8 [.int .i64 sx, .int .i64 sy] 50
            have hf9 : Frm (fun k => B ≤ k) w8 (w8.alloc (.cells #[.int .i64 sx, .int .i64 sy] 50)) := (Frm.refl _ _).alloc _
            have hg9 := (HT.out.out _ _ HT8.out).2
            generalize w8.alloc (.cells #[.int .i64 sx, .int .i64 sy] 50) = w9 at *
            obtain ⟨bX, hbX⟩ : ∃ bX, w8.heap.size = bX := ⟨_, rfl⟩
            simp only [hbX] at hX9 hg9 ⊢
            clear hbX
            have hT9 := HT.out.frm _ _ _ HT8.out hf9
            have HF2 := Lib.hid (HT.out.f2 _ _ k hT9 hkl)
            rw [HQ.out.1, HQ.out.2.2.1, HQ.out.2.2.2.1] at HF2
            obtain ⟨x0, x1, x2, x3, y0, y1, y2, y3, lx⟩ := blk4 (HT.out.blk _ _ hT9)
            clear hT9 HT8 hf9
            go_wp2_with fail
            refine HF2.out.mono ?_
            rintro e w10 ⟨st10, rfl, hT10, hf10⟩
            have hX10 := hX9.frm hf10 (fun h => by omega)
            have HT10 := Lib.hid hT10
            clear hT10 hf10 hX9 HF2 x0 x1 x2 x3 y0 y1 y2 y3 lx
            go_upto_region 20 with fail
            have hY11 := Blk.new w10 [.int .i64 sx, .int .i64 sy] 50
            have hX11 := hX10.alloc (.cells #[.int .i64 sx, .int .i64 sy] 50)
            have hf11 : Frm (fun k => B ≤ k) w10 (w10.alloc (.cells #[.int .i64 sx, .int .i64 sy] 50)) := (Frm.refl _ _).alloc _
            have hlx := hX10.lt
            generalize w10.alloc (.cells #[.int .i64 sx, .int .i64 sy] 50) = w11 at *
            obtain ⟨bY, hbY⟩ : ∃ bY, w10.heap.size = bY := ⟨_, rfl⟩
            simp only [hbY] at hY11 hlx ⊢
            clear hbY
            have HT11 := Lib.hid (HT.out.frm _ _ _ HT10.out hf11)
            clear hX10 HT10 hf11
            have x0 := hX11.cell 0
            have x1 := hX11.cell 1
            have y0 := hY11.cell 0
            have y1 := hY11.cell 1
            simp only [List.getElem?_cons_zero, List.getElem?_cons_succ] at x0 x1 y0 y1
            have lx := hX11.lt
            have ly := hY11.lt
            have HNS : Hid (T w11 (S + 52000026)) := Lib.hid (by have := HT11.out; rwa [show S + 2000001 + 50000025 = S + 52000026 by omega] at this)
            clear HT11 hX11 hY11
            have hgu := eqGuard50
            go_wp2_with fail
            go_roundw
            case measure => simp [intOf] <;> omega
            case rel => exact ⟨k + 1, S + 52000026, by go_num, by omega, by omega, HNS.out⟩
          · obtain rfl : k = line.size + 1 := by omega
            have d1 : decide (((line.size + 1 : Nat) : Int) ≤ (line.size : Int)) = false := decide_eq_false (by omega)
            have t1 : ¬ (((line.size + 1 : Nat) : Int) ≤ (line.size : Int)) := by omega
            have hfr := Lib.hid (HT.out.out _ _ hT).1
            clear hS hT hk
            go_wp2_with fail
            go_ret
            exact ⟨rfl, hfr.out⟩
  · have HN := Lib.hid (newBad A n cp gr co fo pl ins _ w3 HRD.out hr)
    obtain ⟨re, hre⟩ : ∃ re, rightE ins gr co = re := ⟨_, rfl⟩
    rw [hre] at HN hr
    have d1 : (re != 0) = true := by simpa using hr
    clear hre
    go_wp2_with fail
    refine HN.out.mono ?_
    rintro e w4 ⟨rfl, hf4⟩
    have hff4 := hff3.trans hf4
    clear x0 x1 x2 x3 y0 y1 y2 y3 lx hP3 hf4 hff3 HN
    cases fb with
    | false =>
      go_wp2_with fail
      go_ret
      exact ⟨rfl, hff4⟩
    | true =>
      go_wp2_with fail
      go_ret
      exact ⟨rfl, hff4⟩
end Go.Proofs.Ytoadmpochaeohaa
end
