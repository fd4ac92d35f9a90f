import Derived.Test.YthlefnajbfkdbaaLawFollow
set_option linter.unusedVariables false
set_option linter.unusedSimpArgs false
namespace Go.Proofs.Ythlefnajbfkdbaa
open Go.RowKit

theorem take_two {α : Type} (l : List α) (f t : Nat) (h : f ≤ t) : (l.take t).take f = l.take f := by rw [List.take_take, Nat.min_eq_left h]
theorem drop_two {α : Type} (l : List α) (f t : Nat) (h : f ≤ t) : l.drop f = (l.take t).drop f ++ l.drop t := by
  conv => lhs; rw [← List.take_append_drop t l]
  by_cases hl : f ≤ (l.take t).length
  · rw [List.drop_append_of_le_length hl]
  · rw [List.length_take] at hl
    have h1 : l.drop t = [] := List.drop_eq_nil_of_le (by omega)
    have h2 : (l.take t).drop f = [] := List.drop_eq_nil_of_le (by rw [List.length_take]; omega)
    rw [h1, h2, List.append_nil, List.append_nil, h2]

set_option maxHeartbeats 8000000 in
set_option maxRecDepth 100000 in
theorem lawTwice (N : Int) (A0 : Option Addr) (n c0 : Nat) (zs : List Ly) (one two : Int) (W : World) (hN0 : -9223372036854775808 ≤ N) (hN1 : N ≤ 9223372036854775807)
    (ho0 : -9223372036854775808 ≤ one) (ho1 : one ≤ 9223372036854775807) (ht0 : -9223372036854775808 ≤ two) (ht1 : two ≤ 9223372036854775807)
    (hrd0 : Rd W (fun _ => True) 3 A0 n c0 (flatY zs)) (hz0 : ∀ z ∈ zs, -9223372036854775808 ≤ z.a ∧ z.a ≤ 9223372036854775807) :
    Calls Try.prog 6 #[.int .i64 N, .slice A0 n c0, .int .i64 one, .int .i64 two] W fun e W' => e = .returned (.bool true) ∧ Frm (fun _ => False) W W' := by
  have HZ0 := Lib.hid hz0
  clear hz0
  have hzl : zs.length = n := by have := hrd0.len; rw [flatY_len] at this; omega
  have HZL := Lib.hid hzl
  clear hzl
  go_enter Try.func6, Try.ntmps6
  go_wp2_with fail
  refine (known_calls W).mono ?_
  rintro e w0 ⟨rfl, hf0⟩
  have hs0 := hf0.size
  go_wp2_with fail
  refine (pick_calls N 200 w0 hN0 hN1 (by decide) (by decide)).mono ?_
  rintro e w' ⟨rfl, rfl⟩
  have hp := pickN_lt N 200 (by decide)
  generalize pickN N 200 = q at *
  go_wp2_with fail
  have hq1 : (1 : Int) + (q : Int) = ((q + 1 : Nat) : Int) := by omega
  rw [hq1]
  clear hq1
  generalize hQ : q + 1 = Q at *
  have hQb : 1 ≤ Q ∧ Q ≤ 200 := by omega
  clear hQ hp
  refine (newC Q w0 (by omega)).mono ?_
  rintro e w1 ⟨g, rfl, hC, hf1⟩
  have hs1 := hf1.size
  have hI0 : KInv W g (List.replicate Q (-1)) [] w1 (fun k => w0.heap.size ≤ k) := ⟨hC, fun k hk => by omega, fun p hp => by simp at hp⟩
  have hF := hf0.trans hf1
  clear hC hf0 hf1
  go_wp2_with fail
  refine (newC Q w1 (by omega)).mono ?_
  rintro e w2 ⟨g2, rfl, hC, hf2⟩
  have hJ : KInv W g2 (List.replicate Q (-1)) [] w2 (fun k => w1.heap.size ≤ k) := ⟨hC, fun k hk => by omega, fun p hp => by simp at hp⟩
  have hI := hI0.low.frm hf2 (fun _ _ h => h)
  have hF2 := hF.trans hf2
  have hIJ : ∀ k, (w0.heap.size ≤ k ∧ k < w1.heap.size) → ¬ (w1.heap.size ≤ k) := fun k h => by omega
  clear hC hI0 hF hf2
  go_upto_block 0 with fail
  go_cut [] from 53 to 90 (fun wx => ∃ (vs : List Int) (tr : List (Int × Int)) (F G : Nat → Prop), Hid (tr.length ≤ 300 ∧ vs.length = Q) ∧ KInv W g vs tr wx F ∧ KInv W g2 vs tr wx G ∧ Hid (∀ k, F k → ¬ G k) ∧ Frm (fun _ => False) W wx)
  case first =>
    go_wp2_with fail
    go_loopw [14] (fun i wr => ∃ (k : Nat) (vs : List Int) (tr : List (Int × Int)) (F G : Nat → Prop), i = .int .i64 k ∧ k ≤ 300 ∧ Hid (tr.length = k ∧ vs.length = Q) ∧ KInv W g vs tr wr F ∧ KInv W g2 vs tr wr G ∧ Hid (∀ k, F k → ¬ G k) ∧ Frm (fun _ => False) W wr) (fun i _ => 300 - (intOf i).toNat)
    case atStart => exact ⟨0, _, _, _, _, rfl, by omega, ⟨rfl, by simp⟩, hI, hJ, hIJ, hF2⟩
    case round =>
      obtain ⟨k, vs, tr, F, G, rfl, hk, HH, hI, hJ, HFG, hF⟩ := hrel
      have hz : W.heap.size ≤ wr.heap.size := hF.size
      by_cases hlt : k < n ∧ k < 300
      · obtain ⟨h1, h2⟩ := hlt
        have hrd := hrd0.frm hF (fun _ _ f => f)
        obtain ⟨y, hy⟩ : ∃ y, zs[k]? = some y := ⟨_, List.getElem?_eq_getElem (by rw [HZL.out]; exact h1)⟩
        obtain ⟨b, off, rfl, hbl, d0, d1, d2⟩ := hrd.lay k h1 y hy
        obtain ⟨hya, hyb⟩ := HZ0.out y (List.mem_of_getElem? hy)
        have HY := Lib.hid hy
        clear hy
        obtain ⟨yk, ya, yb⟩ := y
        simp only at hya hyb d0 d1 d2
        have HP := pickN_lt ya Q (by omega)
        have hset := fun F => setN F g vs tr (pickN ya Q) yb
        have hset2 := fun F => setN F g2 vs tr (pickN ya Q) yb
        generalize hpq : pickN ya Q = p at *
        have hlen := HH.out.2
        have htl := HH.out.1
        have hvb : vs.length ≤ 1073741824 := by omega
        have htb : tr.length ≤ 1073741824 := by omega
        have hpv : p < vs.length := by omega
        have HPQ := Lib.hid hpq
        have HS := Lib.hid hset
        have HS2 := Lib.hid hset2
        clear hpq hlen htl hset hset2
        go_upto_region 10 with fail
        go_cut [] from 53 to 90 (fun wx => ∃ e, SetPost F g wr.drew (vs.set p yb) (tr ++ [((p : Int), (getC vs p).1)]) 0 e wx)
        case first =>
          go_region_law (first
            | (refine step_call (f := 16) rfl rfl Try.func16 (by kernel_rfl) rfl _ (by simp only [List.map_toArray, List.map_cons, List.map_nil]; rfl) ?_; refine (pick_calls ya Q _ hya hyb (by omega) (by omega)).mono ?_; rw [HPQ.out]; rintro e w' ⟨rfl, rfl⟩; refine ⟨_, rfl, ?_⟩)
            | (refine step_call (f := 18) rfl rfl Try.func18 (by kernel_rfl) rfl _ (by simp only [List.map_toArray, List.map_cons, List.map_nil]; rfl) ?_; refine (HS.out F _ (hI.ce.frm (S := fun _ => False) ((Frm.refl _ _).drew) (fun _ _ h => h)) hvb htb hpv).mono ?_; rintro e w2 ⟨rfl, hC2, hf2⟩; refine ⟨_, rfl, ?_⟩))
          all_goals
            go_wp2_with fail
            go_meet
            exact ⟨_, rfl, hC2, hf2⟩
        case rest =>
          obtain ⟨e, _, hC2, hf2⟩ := hcut
          generalize wc = w2 at *
          have hD : Frm (fun _ => False) wr wr.drew := (Frm.refl _ _).drew
          have hI2 := ((hI.frm hD (fun _ _ h => h)).set (by exact hz) p yb hpv ⟨rfl, hC2, hf2⟩).low
          have hFr2 := (hF.then hD (fun i h hi => h)).then hf2 (fun i h hi => by have := hI.f i h; omega)
          have hJ2 := ((hJ.frm hD (fun _ _ h => h)).low.frm hf2 (fun k h h' => HFG.out k h' h.1))
          have hz2 : wr.heap.size ≤ w2.heap.size := hf2.size
          have hrd := hrd0.frm hFr2 (fun _ _ f => f)
          obtain ⟨b', off', he, hbl, d0, d1, d2⟩ := hrd.lay k h1 _ HY.out
          cases he
          go_upto_block 99 with fail
          go_region_law (first
            | (refine step_call (f := 16) rfl rfl Try.func16 (by kernel_rfl) rfl _ (by simp only [List.map_toArray, List.map_cons, List.map_nil]; rfl) ?_; refine (pick_calls ya Q _ hya hyb (by omega) (by omega)).mono ?_; rw [HPQ.out]; rintro e w' ⟨rfl, rfl⟩; refine ⟨_, rfl, ?_⟩)
            | (refine step_call (f := 18) rfl rfl Try.func18 (by kernel_rfl) rfl _ (by simp only [List.map_toArray, List.map_cons, List.map_nil]; rfl) ?_; refine (HS2.out _ _ (hJ2.ce.frm (S := fun _ => False) ((Frm.refl _ _).drew) (fun _ _ h => h)) hvb htb hpv).mono ?_; rintro e w3 ⟨rfl, hC3, hf3⟩; refine ⟨_, rfl, ?_⟩))
          all_goals
            have hD2 : Frm (fun _ => False) w2 w2.drew := (Frm.refl _ _).drew
            have hJ3 := (hJ2.frm hD2 (fun _ _ h => h)).set (by show W.heap.size ≤ w2.heap.size; omega) p yb hpv ⟨rfl, hC3, hf3⟩
            have hI3 := (hI2.frm hD2 (fun _ _ h => h)).frm hf3 (fun k h h' => by
              rcases h.1 with h1 | h1
              · exact HFG.out k h1 h'.1
              · have : wr.heap.size ≤ k := h1
                have : k < wr.heap.size := h'.2
                omega)
            go_wp2
            go_roundw
            case measure => simp [intOf]; omega
            case rel =>
              refine ⟨k + 1, _, _, _, _, by go_num, by omega, ⟨by rw [List.length_append, HH.out.1]; rfl, by rw [List.length_set]; exact HH.out.2⟩, hI3, hJ3, ?_, (hFr2.then hD2 (fun i h hi => h)).then hf3 (fun i h hi => by have := hJ.f i h.1; omega)⟩
              rintro i ⟨h1, h2⟩ (h3 | h3)
              · rcases h1 with h1 | h1
                · exact HFG.out i h1 h3.1
                · have : wr.heap.size ≤ i := h1
                  have : i < wr.heap.size := h3.2
                  omega
              · have : w2.heap.size ≤ i := h3
                have : i < w2.heap.size := h2
                omega
      · go_wp2_with fail
        all_goals
          go_meet
          exact ⟨vs, tr, F, G, ⟨by rw [HH.out.1]; exact hk, HH.out.2⟩, hI, hJ, HFG, hF⟩
  case rest =>
    clear hI hJ hF2
    obtain ⟨vs, tr, F, G, HH, hI, hJ, HFG, hF⟩ := hcut
    generalize wc = w3 at *
    obtain ⟨htr, hvl⟩ := HH.out
    have hvb : vs.length ≤ 1073741824 := by omega
    have HVL := Lib.hid hvl
    have hin : InC vs.length tr := hI.in_
    have HIN := Lib.hid hin
    generalize hL : tr.length = L at *
    have HL := Lib.hid hL
    have hmk : ∀ w F, CE w F g vs tr → Calls Try.prog 26 #[.pointer (some ⟨g, 0, none⟩)] w fun e w' => e = .returned (.int .i64 L) ∧ w = w' := fun w F h => by rw [← hL]; exact markC F g vs tr w h
    have HMK := Lib.hid hmk
    clear hL hvl HH hin hmk
    have hIJ : ∀ k, F k → ¬ G k := HFG.out
    have HIJ := Lib.hid hIJ
    clear hIJ HFG
    go_wp2_with fail
    refine (HMK.out w3 F hI.ce).mono ?_
    rintro e w' ⟨rfl, rfl⟩
    go_wp2_with fail
    refine (pick_calls one (L + 1) w3 ho0 ho1 (by omega) (by omega)).mono ?_
    rintro e w' ⟨rfl, rfl⟩
    have hf := pickN_lt one (L + 1) (by omega)
    generalize pickN one (L + 1) = f at *
    have hfL : f ≤ L := by omega
    clear hf
    go_wp2_with fail
    refine (HMK.out w3 F hI.ce).mono ?_
    rintro e w' ⟨rfl, rfl⟩
    go_wp2_with fail
    refine (pick_calls two (L - f + 1) w3 ht0 ht1 (by omega) (by omega)).mono ?_
    rintro e w' ⟨rfl, rfl⟩
    have ht := pickN_lt two (L - f + 1) (by omega)
    generalize pickN two (L - f + 1) = d at *
    have htL : f + d ≤ L := by omega
    clear ht
    have htd : IntKind.i64.wrap ((f : Int) + (d : Int)) = ((f + d : Nat) : Int) := by rw [IntWalk.i64_in _ (by omega)]; omega
    generalize hT : f + d = t at *
    have hft : f ≤ t := by omega
    clear hT
    go_wp2_with fail
    have hLb : tr.length ≤ 1073741824 := by rw [HL.out]; omega
    refine (backYes F g vs tr t w3 hI.ce (by rw [HL.out]; exact htL) HIN.out hvb hLb).mono ?_
    rintro e w4 ⟨rfl, hC4, hf4⟩
    have hJ4 := hJ.ce.frm hf4 (fun k h h' => HIJ.out k h' h)
    have hF4 := hF.then hf4 (fun i h hi => by have := hI.f i h; omega)
    have hlt : (tr.take t).length = t := by rw [List.length_take, HL.out]; omega
    have hin4 : InC (backC vs (tr.drop t)).length (tr.take t) := by rw [backC_len]; exact fun p hp => HIN.out p (List.mem_of_mem_take hp)
    have hb5 := backYes F g (backC vs (tr.drop t)) (tr.take t) f w4 hC4 (by rw [hlt]; exact hft) hin4 (by rw [backC_len]; exact hvb) (by rw [hlt]; omega)
    rw [take_two tr f t hft, ← backC_two, ← drop_two tr f t hft] at hb5
    have HB5 := Lib.hid hb5
    clear hb5 hlt hin4
    go_wp2_with fail
    refine HB5.out.mono ?_
    rintro e w5 ⟨rfl, hC5, hf5⟩
    have hJ5 := hJ4.frm hf5 (fun k h h' => HIJ.out k h' h)
    have hF5 := hF4.then hf5 (fun i h hi => by have := hI.f i h; omega)
    go_wp2_with fail
    refine (backYes G g2 vs tr f w5 hJ5 (by rw [HL.out]; exact hfL) HIN.out hvb hLb).mono ?_
    rintro e w6 ⟨rfl, hJ6, hf6⟩
    have hC6 := hC5.frm hf6 (fun k h h' => HIJ.out k h h')
    have hF6 := hF5.then hf6 (fun i h hi => by have := hJ.f i h; omega)
    have htl : (tr.take f).length = f := by rw [List.length_take, HL.out]; omega
    have hvl2 : (backC vs (tr.drop f)).length ≤ 1073741824 := by rw [backC_len]; exact hvb
    generalize hV : backC vs (tr.drop f) = V at *
    generalize hTR : tr.take f = T at *
    clear hC4 hJ4 hC5 hJ5 HB5 hV hTR HL HIN HMK
    have HTL := Lib.hid htl
    clear htl
    go_wp2_with fail
    refine (valuesC F g V T w6 hC6 hvl2).mono ?_
    rintro e w7 ⟨v7, rfl, hs7, hf7⟩
    obtain ⟨A7, c7, rfl⟩ := hs7.form
    have hJ7 := hJ6.frm hf7 (fun _ _ h => h)
    have hC7 := hC6.frm hf7 (fun _ _ h => h)
    go_wp2_with fail
    refine (valuesC G g2 V T w7 hJ7 hvl2).mono ?_
    rintro e w8 ⟨v8, rfl, hs8, hf8⟩
    obtain ⟨A8, c8, rfl⟩ := hs8.form
    go_wp2_with fail
    refine (values_calls w8 (hs7.rd.frm hf8 (fun _ _ h => h)) hs8.rd hvl2).mono ?_
    rintro e w9 ⟨rfl, hf9⟩
    have hF9 := ((hF6.trans hf7).trans hf8).trans hf9
    have hJ9 := (hJ7.frm hf8 (fun _ _ h => h)).frm hf9 (fun _ _ h => h)
    have hC9 := (hC7.frm hf8 (fun _ _ h => h)).frm hf9 (fun _ _ h => h)
    have hm1 := markC F g V T w9 hC9
    have hm2 := markC G g2 V T w9 hJ9
    have hbn := backNo F g V T (f + 1) w9 hC9 (by rw [HTL.out]; omega)
    rw [HTL.out] at hm1 hm2
    have HM1 := Lib.hid hm1
    have HM2 := Lib.hid hm2
    have HBN := Lib.hid hbn
    clear hm1 hm2 hbn
    go_wp2_with fail
    refine HM1.out.mono ?_
    rintro e w' ⟨rfl, rfl⟩
    go_wp2_with fail
    refine HM2.out.mono ?_
    rintro e w' ⟨rfl, rfl⟩
    go_wp2_with fail
    refine HBN.out.mono ?_
    rintro e w' ⟨rfl, rfl⟩
    go_wp2
    go_ret
    exact ⟨rfl, hF9⟩
end Go.Proofs.Ythlefnajbfkdbaa
