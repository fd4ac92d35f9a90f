import Derived.Test.YtmibmblebhpdfaaEnded
import Derived.Test.YtmibmblebhpdfaaLawTwo
set_option linter.unusedVariables false
set_option linter.unusedSimpArgs false
namespace Go.Proofs.Ytmibmblebhpdfaa
open Go.RowKit

structure FeedLawInv (W : World) (g : Nat) (t : ByteArray) (xs : List ByteArray) (k : Nat) (wr : World) (F1 : Nat → Prop) : Prop where
  spl : SplT wr F1 g t.data.toList
  frm : Frm (fun _ => False) W wr
  f1 : ∀ j, F1 j → W.heap.size ≤ j
  size : t.size ≤ (cat (xs.take k)).length

set_option maxHeartbeats 2000000 in
set_option maxRecDepth 100000 in
theorem lawFeed (A0 : Option Addr) (n c0 : Nat) (xs : List ByteArray) (B0 : Option Addr) (m d0 : Nat) (bs_ : List Bool) (W : World) (ha0 : Rd W (fun _ => True) 1 A0 n c0 (xs.map Value.string)) (hb0 : Rd W (fun _ => True) 1 B0 m d0 (bs_.map Value.bool))
    (hba : (xs.map fun s => s.size).sum ≤ 1048576) (hn : n ≤ 1048576) (hm : m ≤ 1048576) :
    Calls Try.prog 7 #[.slice A0 n c0, .slice B0 m d0] W fun e w' => e = .returned (.bool true) ∧ Frm (fun _ => False) W w' := by
  have hal : xs.length = n := by simpa using ha0.len
  have hbl : bs_.length = m := by simpa using hb0.len
  have hca := cat_len xs
  have hta := cat_take_le xs
  have hsa : ∀ k, (cat (xs.take k)).length ≤ 1048576 := fun k => by have := hta k; omega
  have HAL := Lib.hid hal
  have HBL := Lib.hid hbl
  have HSA := Lib.hid hsa
  clear hal hbl hca hta hsa
  go_enter Try.func7, Try.ntmps7
  go_wp2_with fail
  refine (examples_calls W).mono ?_
  rintro e w0 ⟨rfl, hf0⟩
  go_wp2_with fail
  refine (new_calls _).mono ?_
  rintro e w' ⟨rfl, rfl⟩
  have hx := newT w0
  have z0 := hf0.size
  have hf1 := hf0.alloc (.cells #[.slice none 0 0, .int .i64 0, .int .i64 1] 45)
  have hI : FeedLawInv W w0.heap.size ⟨#[]⟩ xs 0 (w0.alloc (.cells #[.slice none 0 0, .int .i64 0, .int .i64 1] 45)) (fun k => k = w0.heap.size) :=
    ⟨hx, hf1, fun k h => by omega, Nat.zero_le _⟩
  generalize w0.alloc (.cells #[.slice none 0 0, .int .i64 0, .int .i64 1] 45) = w1 at *
  clear hx hf1
  generalize w0.heap.size = g at *
  go_wp2
  go_loopw [7, 8, 9] (fun s c i wr => ∃ (k : Nat) (t : ByteArray) (F1 : Nat → Prop), i = .int .i64 k ∧ s = .string t ∧ c = .int .i64 (lns t.data.toList).length ∧ k ≤ n ∧ FeedLawInv W g t xs k wr F1) (fun _ _ i _ => n - (intOf i).toNat)
  case atStart => exact ⟨0, _, _, rfl, rfl, rfl, by omega, hI⟩
  case round =>
    obtain ⟨k, t, F1, rfl, rfl, rfl, hk, hI⟩ := hrel
    have hsp := hI.spl
    have hsz := hI.size
    have hf := hI.frm
    have hj1 := hI.f1
    have zf := hf.size
    have hpk := HSA.out k
    have hts : t.data.toList.length = t.size := by simp
    have hln := lns_len t.data.toList
    rw [hts] at hln
    have HTS := Lib.hid hts
    clear hts hI
    by_cases hkn : k < n
    · have hkk : ((k : Int) == (n : Int)) = false := by rw [beq_eq_false_iff_ne]; omega
      obtain ⟨x, hx⟩ : ∃ x, xs[k]? = some x := ⟨_, List.getElem?_eq_getElem (by rw [HAL.out]; exact hkn)⟩
      have hxv : (xs.map Value.string)[k]? = some (.string x) := by simp [hx]
      obtain ⟨b, off, rfl, hc⟩ := (ha0.frm hf (fun _ _ f => f)).one hxv
      have hctk := cat_take xs k x hx
      have hpk1 := HSA.out (k + 1)
      rw [hctk, List.length_append] at hpk1
      have hxs : x.data.toList.length = x.size := by simp
      rw [hxs] at hpk1
      have HXV := Lib.hid hxv
      have HCT := Lib.hid hctk
      have hxsm : t.size + x.size ≤ 1048576 := by omega
      clear hx hctk hxs hxv
      by_cases hkm : k < m
      · obtain ⟨y, hy⟩ : ∃ y, bs_[k]? = some y := ⟨_, List.getElem?_eq_getElem (by rw [HBL.out]; exact hkm)⟩
        have hyv : (bs_.map Value.bool)[k]? = some (.bool y) := by simp [hy]
        obtain ⟨b2, off2, rfl, hcy⟩ := (hb0.frm hf (fun _ _ f => f)).one hyv
        clear hy hyv
        cases y with
        | true =>
          have hspl : splitL t.data.toList = lns t.data.toList ++ closeL (feedL 0 1 [] t.data.toList) := rfl
          have HSP := Lib.hid hspl
          have hcl1 : (closeL (feedL 0 1 [] t.data.toList)).length ≤ 1 := by unfold closeL; split <;> simp
          clear hspl
          go_wp2_with fail
          refine (closeT (fun k => F1 k ∧ k < wr.heap.size) g t.data.toList wr hsp.low (by rw [HTS.out]; omega)).mono ?_
          rintro e w2 ⟨A2, c2, K1, K2, rfl, hl2, hs2, hf2, hK1, hK2, hK12⟩
          have hF2 : Frm (fun _ => False) W w2 := hf.then hf2 (fun i hi hl => absurd (hj1 i hi.1) (by omega))
          generalize closeL (feedL 0 1 [] t.data.toList) = cl at *
          generalize lns t.data.toList = ll at *
          go_wp2_with fail
          refine (ref_calls t w2 (by omega)).mono ?_
          rintro e w3 ⟨v3, rfl, hv3, hf3⟩
          rw [HSP.out, List.length_append] at hv3
          obtain ⟨A3, c3, rfl⟩ := hv3.form
          have hl3 := hl2.frm hf3 (fun _ _ f => f)
          have hs3 := hs2.frm hf3 (fun _ _ f => f)
          go_wp2_with (with_reducible refine stop_at 54 rfl ?_)
          unfold Stop
          refine op_from rfl _ _ _ rfl 31 4 Try.underlying26 (by kernel_rfl) A3 (ll.length + cl.length) c3 rfl _ rfl ll.length rfl (by omega) hv3.rd.cap ?_
          intro ao hao
          have hr3 := hv3.rd.from (k := ll.length) (by omega) hao
          rw [cellsL_drop, List.drop_left' rfl] at hr3
          rw [show ll.length + cl.length - ll.length = cl.length by omega] at hr3 ⊢
          go_wp2_with fail
          refine (same_calls w3 hl3.rd hr3 (by omega) (by omega) true (by simp)).mono ?_
          rintro e w4 ⟨rfl, hf4⟩
          have hs4 := hs3.frm hf4 (fun _ _ f => f)
          have hF4 : Frm (fun _ => False) W w4 := (hF2.trans hf3).trans hf4
          have hc4 := (ha0.frm hF4 (fun _ _ f => f)).oneAt HXV.out
          have hjX : ∀ i, K1 i → W.heap.size ≤ i := by
            intro i hi
            rcases hK1 i hi with h | h
            · exact hj1 i h.1
            · omega
          have hge : Go.Value.string (⟨#[]⟩ ++ x) = .string x := by congr 1
          clear hl2 hl3 hs2 hs3 hr3 hao hv3 hK1 hK2 hK12 HSP hcl1
          go_wp2_with (first | (go_at_call 14; refine (atT _ g _ w4 hs4).mono ?_; rintro e w' ⟨rfl, rfl⟩) | (go_at_call 18; refine (heldT _ g _ w4 hs4).mono ?_; rintro e w' ⟨rfl, rfl⟩))
          have hed : (⟨#[]⟩ ++ x : ByteArray).data.toList = x.data.toList := by simp
          have h0 : Calls Try.prog 19 #[.string (⟨#[]⟩ ++ x), .int .i64 0] w4 (EndPost w4 (⟨#[]⟩ ++ x : ByteArray).data.toList 0) := ended_calls _ 0 w4 (by rw [ByteArray.size_append]; show 0 + x.size ≤ _; omega) (Nat.zero_le _)
          refine h0.mono ?_
          rintro e w5 ⟨A5, n5, c5, rfl, hr5, hn5, hf5⟩
          rw [hed] at hr5 hn5
          rw [hed]
          rw [List.drop_zero] at hr5
          have hX5 := hF4.trans hf5
          have hc5 := (ha0.frm hX5 (fun _ _ f => f)).oneAt HXV.out
          have hsp5 := hs4.low.frm hf5 (fun _ _ f => f)
          have z5 := hf5.size
          have zX := hF4.size
          have hxl : x.data.toList.length = x.size := by simp
          have hnl := lns_len x.data.toList
          rw [hxl] at hnl hn5
          have HED := Lib.hid hed
          have HXL := Lib.hid hxl
          clear hxl hed h0
          go_wp2_with fail
          refine (feedT (fun k => K1 k ∧ k < w4.heap.size) g [] x w5 hsp5 (by simp; omega)).mono ?_
          rintro e w6 ⟨A6, c6, G1, G2, rfl, hl6, hs6, hf6, hG1, hG2, hG12⟩
          have hr6 := hr5.low.frm hf6 (fun k h h' => by omega)
          have hX6 : Frm (fun _ => False) W w6 := hX5.then hf6 (fun i hi hl => absurd (hjX i hi.1) (by omega))
          have hlnsP : lns x.data.toList = newL [] x.data.toList := rfl
          rw [hlnsP] at hnl hr6
          rw [List.nil_append] at hs6
          have HPP := Lib.hid hlnsP
          clear hr5
          generalize newL [] x.data.toList = nl at *
          generalize hPX : x.data.toList = PX at *
          have HPX := Lib.hid hPX
          clear hlnsP hPX
          go_wp2_with fail
          refine (same_calls w6 hl6.rd hr6 (by omega) (by omega) true (by simp)).mono ?_
          rintro e w7 ⟨rfl, hf7⟩
          have hs7 := hs6.frm hf7 (fun _ _ f => f)
          have hl7 := hl6.frm hf7 (fun _ _ f => f)
          have hne : ((PX.length : Int) != (x.size : Int)) = false := by rw [bne_eq_false_iff_eq, HXL.out]
          have hnlb : nl.length ≤ 4194304 := by omega
          go_wp2_with (first | (go_at_call 14; refine (atT _ g _ w7 hs7).mono ?_; rintro e w' ⟨rfl, rfl⟩) | (go_at_call 18; refine (heldT _ g _ w7 hs7).mono ?_; rintro e w' ⟨rfl, rfl⟩))
          have z6 := hf6.size
          have z7 := hf7.size
          refine (spoil_calls w7 hl7.low (by omega)).mono ?_
          rintro e w8 ⟨rfl, hf8⟩
          have hs8 := hs7.low.frm hf8 (fun k h h' => hG12 k h.1 h'.1)
          go_wp2
          go_roundw
          case measure => simp [intOf]; omega
          case rel =>
            refine ⟨k + 1, ⟨#[]⟩ ++ x, fun k => G1 k ∧ k < w7.heap.size, by go_num, rfl, ?_, by omega, ⟨?_, (hX6.trans hf7).then hf8 (fun i hi hl => absurd (hG2 i hi.1) (by omega)), ?_, ?_⟩⟩
            · rw [HED.out, HPP.out]
            · rw [HED.out]; exact hs8
            · intro j hj
              rcases hG1 j hj.1 with h | h
              · exact hjX j h.1
              · omega
            · rw [HCT.out, List.length_append, ByteArray.size_append, HXL.out]; exact Nat.add_le_add (Nat.zero_le _) (Nat.le_refl _)
        | false =>
          have hspX := hsp
          have hFX := hf
          have hjX := hj1
          obtain ⟨FX, hFXe⟩ : ∃ FX, FX = F1 := ⟨_, rfl⟩
          rw [← hFXe] at hspX hjX
          clear hFXe
          go_wp2_with fail
          refine (ended_calls (t ++ x) (lns t.data.toList).length wr (by simp; omega) (by rw [show (t ++ x).data.toList = t.data.toList ++ x.data.toList by simp, lns_append]; simp)).mono ?_
          rintro e w5 ⟨A5, n5, c5, rfl, hr5, hn5, hf5⟩
          rw [show (t ++ x).data.toList = t.data.toList ++ x.data.toList by simp] at *
          rw [lns_append, List.drop_left' rfl] at hr5
          have hX5 := hFX.trans hf5
          have hc5 := (ha0.frm hX5 (fun _ _ f => f)).oneAt HXV.out
          have hsp5 := hspX.low.frm hf5 (fun _ _ f => f)
          have z5 := hf5.size
          have zX := hFX.size
          have hxl : (t.data.toList ++ x.data.toList).length = t.size + x.size := by simp
          have hnl := lns_len (t.data.toList ++ x.data.toList)
          rw [lns_append, List.length_append, hxl] at hnl
          rw [hxl] at hn5
          have HXL := Lib.hid hxl
          clear hxl
          go_wp2_with fail
          refine (feedT (fun k => FX k ∧ k < wr.heap.size) g t.data.toList x w5 hsp5 (by simp; omega)).mono ?_
          rintro e w6 ⟨A6, c6, G1, G2, rfl, hl6, hs6, hf6, hG1, hG2, hG12⟩
          have hr6 := hr5.low.frm hf6 (fun k h h' => by omega)
          have hX6 : Frm (fun _ => False) W w6 := hX5.then hf6 (fun i hi hl => absurd (hjX i hi.1) (by omega))
          have hlnsP := lns_append t.data.toList x.data.toList
          have HPP := Lib.hid hlnsP
          generalize newL t.data.toList x.data.toList = nl at *
          generalize hPX : t.data.toList ++ x.data.toList = PX at *
          have HPX := Lib.hid hPX
          clear hlnsP hPX
          go_wp2_with fail
          refine (same_calls w6 hl6.rd hr6 (by omega) (by omega) true (by simp)).mono ?_
          rintro e w7 ⟨rfl, hf7⟩
          have hs7 := hs6.frm hf7 (fun _ _ f => f)
          have hl7 := hl6.frm hf7 (fun _ _ f => f)
          have hne : ((PX.length : Int) != (t.size : Int) + (x.size : Int)) = false := by rw [bne_eq_false_iff_eq, HXL.out]; push_cast; rfl
          have hnlb : nl.length ≤ 4194304 := by omega
          go_wp2_with (first | (go_at_call 14; refine (atT _ g _ w7 hs7).mono ?_; rintro e w' ⟨rfl, rfl⟩) | (go_at_call 18; refine (heldT _ g _ w7 hs7).mono ?_; rintro e w' ⟨rfl, rfl⟩))
          have z6 := hf6.size
          have z7 := hf7.size
          refine (spoil_calls w7 hl7.low (by omega)).mono ?_
          rintro e w8 ⟨rfl, hf8⟩
          have hs8 := hs7.low.frm hf8 (fun k h h' => hG12 k h.1 h'.1)
          go_wp2
          go_roundw
          case measure => simp [intOf]; omega
          case rel =>
            refine ⟨k + 1, t ++ x, fun k => G1 k ∧ k < w7.heap.size, by go_num, rfl, ?_, by omega, ⟨?_, (hX6.trans hf7).then hf8 (fun i hi hl => absurd (hG2 i hi.1) (by omega)), ?_, ?_⟩⟩
            rotate_left
            · rw [show (t ++ x).data.toList = PX by rw [← HPX.out]; simp]
              exact hs8
            · intro j hj
              rcases hG1 j hj.1 with h | h
              · exact hjX j h.1
              · omega
            · rw [HCT.out, List.length_append]; simp; omega
            · rw [show (t ++ x).data.toList = PX by rw [← HPX.out]; simp, HPP.out, List.length_append]; go_num
      · -- no close
        have hspX := hsp
        have hFX := hf
        have hjX := hj1
        obtain ⟨FX, hFXe⟩ : ∃ FX, FX = F1 := ⟨_, rfl⟩
        rw [← hFXe] at hspX hjX
        clear hFXe
        go_wp2_with fail
        refine (ended_calls (t ++ x) (lns t.data.toList).length wr (by simp; omega) (by rw [show (t ++ x).data.toList = t.data.toList ++ x.data.toList by simp, lns_append]; simp)).mono ?_
        rintro e w5 ⟨A5, n5, c5, rfl, hr5, hn5, hf5⟩
        rw [show (t ++ x).data.toList = t.data.toList ++ x.data.toList by simp] at *
        rw [lns_append, List.drop_left' rfl] at hr5
        have hX5 := hFX.trans hf5
        have hc5 := (ha0.frm hX5 (fun _ _ f => f)).oneAt HXV.out
        have hsp5 := hspX.low.frm hf5 (fun _ _ f => f)
        have z5 := hf5.size
        have zX := hFX.size
        have hxl : (t.data.toList ++ x.data.toList).length = t.size + x.size := by simp
        have hnl := lns_len (t.data.toList ++ x.data.toList)
        rw [lns_append, List.length_append, hxl] at hnl
        rw [hxl] at hn5
        have HXL := Lib.hid hxl
        clear hxl
        go_wp2_with fail
        refine (feedT (fun k => FX k ∧ k < wr.heap.size) g t.data.toList x w5 hsp5 (by simp; omega)).mono ?_
        rintro e w6 ⟨A6, c6, G1, G2, rfl, hl6, hs6, hf6, hG1, hG2, hG12⟩
        have hr6 := hr5.low.frm hf6 (fun k h h' => by omega)
        have hX6 : Frm (fun _ => False) W w6 := hX5.then hf6 (fun i hi hl => absurd (hjX i hi.1) (by omega))
        have hlnsP := lns_append t.data.toList x.data.toList
        have HPP := Lib.hid hlnsP
        generalize newL t.data.toList x.data.toList = nl at *
        generalize hPX : t.data.toList ++ x.data.toList = PX at *
        have HPX := Lib.hid hPX
        clear hlnsP hPX
        go_wp2_with fail
        refine (same_calls w6 hl6.rd hr6 (by omega) (by omega) true (by simp)).mono ?_
        rintro e w7 ⟨rfl, hf7⟩
        have hs7 := hs6.frm hf7 (fun _ _ f => f)
        have hl7 := hl6.frm hf7 (fun _ _ f => f)
        have hne : ((PX.length : Int) != (t.size : Int) + (x.size : Int)) = false := by rw [bne_eq_false_iff_eq, HXL.out]; push_cast; rfl
        have hnlb : nl.length ≤ 4194304 := by omega
        go_wp2_with (first | (go_at_call 14; refine (atT _ g _ w7 hs7).mono ?_; rintro e w' ⟨rfl, rfl⟩) | (go_at_call 18; refine (heldT _ g _ w7 hs7).mono ?_; rintro e w' ⟨rfl, rfl⟩))
        have z6 := hf6.size
        have z7 := hf7.size
        refine (spoil_calls w7 hl7.low (by omega)).mono ?_
        rintro e w8 ⟨rfl, hf8⟩
        have hs8 := hs7.low.frm hf8 (fun k h h' => hG12 k h.1 h'.1)
        go_wp2
        go_roundw
        case measure => simp [intOf]; omega
        case rel =>
          refine ⟨k + 1, t ++ x, fun k => G1 k ∧ k < w7.heap.size, by go_num, rfl, ?_, by omega, ⟨?_, (hX6.trans hf7).then hf8 (fun i hi hl => absurd (hG2 i hi.1) (by omega)), ?_, ?_⟩⟩
          rotate_left
          · rw [show (t ++ x).data.toList = PX by rw [← HPX.out]; simp]
            exact hs8
          · intro j hj
            rcases hG1 j hj.1 with h | h
            · exact hjX j h.1
            · omega
          · rw [HCT.out, List.length_append]; simp; omega
          · rw [show (t ++ x).data.toList = PX by rw [← HPX.out]; simp, HPP.out, List.length_append]; go_num
    · obtain rfl : k = n := by omega
      have hkk : ((k : Int) == (k : Int)) = true := by simp
      have hspl : splitL t.data.toList = lns t.data.toList ++ closeL (feedL 0 1 [] t.data.toList) := rfl
      have HSP := Lib.hid hspl
      have hcl1 : (closeL (feedL 0 1 [] t.data.toList)).length ≤ 1 := by unfold closeL; split <;> simp
      clear hspl
      go_wp2_with fail
      refine (closeT (fun k => F1 k ∧ k < wr.heap.size) g t.data.toList wr hsp.low (by rw [HTS.out]; omega)).mono ?_
      rintro e w2 ⟨A2, c2, K1, K2, rfl, hl2, hs2, hf2, hK1, hK2, hK12⟩
      have hF2 : Frm (fun _ => False) W w2 := hf.then hf2 (fun i hi hl => absurd (hj1 i hi.1) (by omega))
      generalize closeL (feedL 0 1 [] t.data.toList) = cl at *
      generalize lns t.data.toList = ll at *
      go_wp2_with fail
      refine (ref_calls t w2 (by omega)).mono ?_
      rintro e w3 ⟨v3, rfl, hv3, hf3⟩
      rw [HSP.out, List.length_append] at hv3
      obtain ⟨A3, c3, rfl⟩ := hv3.form
      have hl3 := hl2.frm hf3 (fun _ _ f => f)
      have hs3 := hs2.frm hf3 (fun _ _ f => f)
      go_wp2_with (with_reducible refine stop_at 54 rfl ?_)
      unfold Stop
      refine op_from rfl _ _ _ rfl 31 4 Try.underlying26 (by kernel_rfl) A3 (ll.length + cl.length) c3 rfl _ rfl ll.length rfl (by omega) hv3.rd.cap ?_
      intro ao hao
      have hr3 := hv3.rd.from (k := ll.length) (by omega) hao
      rw [cellsL_drop, List.drop_left' rfl] at hr3
      rw [show ll.length + cl.length - ll.length = cl.length by omega] at hr3 ⊢
      go_wp2_with fail
      refine (same_calls w3 hl3.rd hr3 (by omega) (by omega) true (by simp)).mono ?_
      rintro e w4 ⟨rfl, hf4⟩
      have hs4 := hs3.frm hf4 (fun _ _ f => f)
      go_wp2_with (first | (go_at_call 14; refine (atT _ g _ w4 hs4).mono ?_; rintro e w' ⟨rfl, rfl⟩) | (go_at_call 18; refine (heldT _ g _ w4 hs4).mono ?_; rintro e w' ⟨rfl, rfl⟩))
      go_ret
      exact ⟨rfl, (hF2.trans hf3).trans hf4⟩
end Go.Proofs.Ytmibmblebhpdfaa
