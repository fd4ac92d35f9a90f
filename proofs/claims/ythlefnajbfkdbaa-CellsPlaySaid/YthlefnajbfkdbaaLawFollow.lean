import Derived.Test.YthlefnajbfkdbaaCellsLaw
import Derived.Deep.CutBlock
import Derived.Deep.DeepCutAuto
set_option linter.unusedVariables false
set_option linter.unusedSimpArgs false
namespace Go.Proofs.Ythlefnajbfkdbaa
open Go.RowKit

theorem KInv.frm {W : World} {g : Nat} {vs : List Int} {tr : List (Int × Int)} {w w1 : World} {F S : Nat → Prop} (h : KInv W g vs tr w F) (f : Frm S w w1) (hd : ∀ k, F k → ¬ S k) : KInv W g vs tr w1 F := ⟨h.ce.frm f hd, h.f, h.in_⟩
theorem KInv.low {W : World} {g : Nat} {vs : List Int} {tr : List (Int × Int)} {w : World} {F : Nat → Prop} (h : KInv W g vs tr w F) : KInv W g vs tr w (fun k => F k ∧ k < w.heap.size) := ⟨h.ce.low, fun k hk => h.f k hk.1, h.in_⟩

set_option maxHeartbeats 4000000 in
set_option maxRecDepth 100000 in
theorem lawFollow (N : Int) (A0 : Option Addr) (n c0 : Nat) (zs : List Ly) (A1 : Option Addr) (m c1 : Nat) (ys : List Ly) (W : World) (hN0 : -9223372036854775808 ≤ N) (hN1 : N ≤ 9223372036854775807)
    (hrd0 : Rd W (fun _ => True) 3 A0 n c0 (flatY zs)) (hrd1 : Rd W (fun _ => True) 3 A1 m c1 (flatY ys))
    (hz0 : ∀ z ∈ zs, -9223372036854775808 ≤ z.a ∧ z.a ≤ 9223372036854775807) (hy0 : ∀ z ∈ ys, -9223372036854775808 ≤ z.a ∧ z.a ≤ 9223372036854775807) :
    Calls Try.prog 5 #[.int .i64 N, .slice A0 n c0, .slice A1 m c1] W fun e W' => e = .returned (.bool true) ∧ Frm (fun _ => False) W W' := by
  have HZ0 := Lib.hid hz0
  have HY0 := Lib.hid hy0
  clear hz0 hy0
  have hzl : zs.length = n := by have := hrd0.len; rw [flatY_len] at this; omega
  have hyl : ys.length = m := by have := hrd1.len; rw [flatY_len] at this; omega
  have HZL := Lib.hid hzl
  have HYL := Lib.hid hyl
  clear hzl hyl
  go_enter Try.func5, Try.ntmps5
  go_wp2_with fail
  refine (known_calls W).mono ?_
  rintro e w0 ⟨rfl, hf0⟩
  have hs0 := hf0.size
  go_wp2_with fail
  refine (pick_calls N 500 w0 hN0 hN1 (by decide) (by decide)).mono ?_
  rintro e w' ⟨rfl, rfl⟩
  have hp := pickN_lt N 500 (by decide)
  generalize pickN N 500 = q at *
  go_wp2_with fail
  have hq1 : (1 : Int) + (q : Int) = ((q + 1 : Nat) : Int) := by omega
  rw [hq1]
  clear hq1
  generalize hQ : q + 1 = Q at *
  have hQb : 1 ≤ Q ∧ Q ≤ 500 := by omega
  clear hQ hp
  refine (newC Q w0 (by omega)).mono ?_
  rintro e w1 ⟨g, rfl, hC, hf1⟩
  have hI : KInv W g (List.replicate Q (-1)) [] w1 (fun k => w0.heap.size ≤ k) := ⟨hC, fun k hk => by omega, fun p hp => by simp at hp⟩
  have hF := hf0.trans hf1
  clear hC hf0 hf1
  go_upto_block 0 with fail
  go_cut [] from 41 to 64 (fun wx => ∃ (vs : List Int) (tr : List (Int × Int)) (F : Nat → Prop), Hid (tr.length ≤ 300 ∧ vs.length = Q ∧ backC vs tr = List.replicate Q (-1)) ∧ KInv W g vs tr wx F ∧ Frm (fun _ => False) W wx)
  case first =>
    go_wp2_with fail
    go_loopw [10] (fun i wr => ∃ (k : Nat) (vs : List Int) (tr : List (Int × Int)) (F : Nat → Prop), i = .int .i64 k ∧ k ≤ 300 ∧ Hid (tr.length = k ∧ vs.length = Q ∧ backC vs tr = List.replicate Q (-1)) ∧ KInv W g vs tr wr F ∧ Frm (fun _ => False) W wr) (fun i _ => 300 - (intOf i).toNat)
    case atStart => exact ⟨0, _, _, _, rfl, by omega, ⟨rfl, by simp, rfl⟩, hI, hF⟩
    case round =>
      obtain ⟨k, vs, tr, F, rfl, hk, HH, hI, hF⟩ := hrel
      have hz := hF.size
      by_cases hlt : k < n ∧ k < 300
      · obtain ⟨h1, h2⟩ := hlt
        have hrd := hrd0.frm hF (fun _ _ f => f)
        obtain ⟨y, hy⟩ : ∃ y, zs[k]? = some y := ⟨_, List.getElem?_eq_getElem (by rw [HZL.out]; exact h1)⟩
        obtain ⟨b, off, rfl, hbl, d0, d1, d2⟩ := hrd.lay k h1 y hy
        obtain ⟨hya, hyb⟩ := HZ0.out y (List.mem_of_getElem? hy)
        clear hy
        obtain ⟨yk, ya, yb⟩ := y
        simp only at hya hyb d0 d1 d2
        have HP := pickN_lt ya Q (by omega)
        have hset := setN F g vs tr (pickN ya Q) yb
        generalize hpq : pickN ya Q = p at *
        have hlen := HH.out.2.1
        have htl := HH.out.1
        have hvb : vs.length ≤ 1073741824 := by omega
        have htb : tr.length ≤ 1073741824 := by omega
        have hpv : p < vs.length := by omega
        have HPQ := Lib.hid hpq
        have HS := Lib.hid hset
        clear hpq hlen htl hset
        go_upto_block 1 with fail
        go_cut [] from 41 to 64 (fun wx => ∃ e, SetPost F g wr.drew (vs.set p yb) (tr ++ [((p : Int), (getC vs p).1)]) 0 e wx)
        case first =>
          go_wp2_with fail
          go_region_law (first
            | (refine step_call (f := 16) rfl rfl Try.func16 (by kernel_rfl) rfl _ (by simp only [List.map_toArray, List.map_cons, List.map_nil]; rfl) ?_; refine (pick_calls ya Q _ hya hyb (by omega) (by omega)).mono ?_; rw [HPQ.out]; rintro e w' ⟨rfl, rfl⟩; refine ⟨_, rfl, ?_⟩)
            | (refine step_call (f := 18) rfl rfl Try.func18 (by kernel_rfl) rfl _ (by simp only [List.map_toArray, List.map_cons, List.map_nil]; rfl) ?_; refine (HS.out _ (hI.ce.frm (S := fun _ => False) ((Frm.refl _ _).drew) (fun _ _ h => h)) hvb htb hpv).mono ?_; rintro e w2 ⟨rfl, hC2, hf2⟩; refine ⟨_, rfl, ?_⟩))
          all_goals
            go_wp2_with fail
            go_meet
            exact ⟨_, rfl, hC2, hf2⟩
        case rest =>
          obtain ⟨e, _, hC2, hf2⟩ := hcut
          have hD : Frm (fun _ => False) wr wr.drew := (Frm.refl _ _).drew
          have hI2 := (hI.frm hD (fun _ _ h => h)).set (by exact hF.size) p yb hpv ⟨rfl, hC2, hf2⟩
          go_wp2
          go_roundw
          case measure => simp [intOf]; omega
          case rel =>
            refine ⟨k + 1, _, _, _, by go_num, by omega, ⟨by rw [List.length_append, HH.out.1]; rfl, by rw [List.length_set]; exact HH.out.2.1, ?_⟩, hI2, (hF.then hD (fun i h hi => h)).then hf2 (fun i h hi => by have := hI.f i h; omega)⟩
            rw [set_back vs p yb hpv tr]; exact HH.out.2.2
      · go_wp2_with fail
        all_goals
          go_meet
          exact ⟨vs, tr, F, ⟨by rw [HH.out.1]; exact hk, HH.out.2⟩, hI, hF⟩
  case rest =>
    clear hI hF
    obtain ⟨vs, tr, F, HH, hI, hF⟩ := hcut
    obtain ⟨htr, hvl, hb3⟩ := HH.out
    have HTR := Lib.hid htr
    have HVL := Lib.hid hvl
    have HB3 := Lib.hid hb3
    have hvb : vs.length ≤ 1073741824 := by omega
    clear htr hvl hb3 HH
    generalize wc = wo at *
    go_wp2_with fail
    refine (valuesC F g vs tr wo hI.ce hvb).mono ?_
    rintro e w1 ⟨wv, rfl, hwas, hf1⟩
    obtain ⟨Aw, cw, rfl⟩ := hwas.form
    have hwas := hwas.low.rd
    have hI1 := (hI.low).frm hf1 (fun _ _ h => h)
    have hF1 := hF.trans hf1
    have hz1 := hf1.size
    clear hI hF hf1
    go_wp2_with fail
    refine (markC _ g vs tr w1 hI1.ce).mono ?_
    rintro e w' ⟨rfl, rfl⟩
    generalize hk : tr.length = k at *
    have HK := Lib.hid hk
    have hkb := HTR.out
    clear hk
    have HIN := Lib.hid hI1.in_
    have hwz : wo.heap.size ≤ w1.heap.size := hz1
    generalize hwzz : wo.heap.size = wz at *
    clear hwzz
    go_upto_block 2 with fail
    go_cut [] from 69 to 115 (fun wx => ∃ (vs2 : List Int) (tr2 : List (Int × Int)) (F2 : Nat → Prop), Hid (tr2.length ≤ 300 ∧ vs2.length = Q ∧ backC vs2 tr2 = vs) ∧ KInv W g vs2 (tr ++ tr2) wx F2 ∧ Frm (fun _ => False) W wx ∧ Frm (fun i => i < wz) w1 wx ∧ Hid (∀ i, F2 i → i < wz ∨ w1.heap.size ≤ i))
    case first =>
      go_wp2_with fail
      go_loopw [13] (fun i wx => ∃ (j : Nat) (vs2 : List Int) (tr2 : List (Int × Int)) (F2 : Nat → Prop), i = .int .i64 j ∧ j ≤ 300 ∧ Hid (tr2.length = j ∧ vs2.length = Q ∧ backC vs2 tr2 = vs) ∧ KInv W g vs2 (tr ++ tr2) wx F2 ∧ Frm (fun _ => False) W wx ∧ Frm (fun i => i < wz) w1 wx ∧ Hid (∀ i, F2 i → i < wz ∨ w1.heap.size ≤ i)) (fun i _ => 300 - (intOf i).toNat)
      case atStart => exact ⟨0, vs, [], _, rfl, by omega, ⟨rfl, HVL.out, rfl⟩, by rw [List.append_nil]; exact hI1, hF1, Frm.refl _ _, by intro i h; exact .inl h.2⟩
      case round =>
        obtain ⟨j, vs2, tr2, F2, rfl, hj, HH, hI, hF, hFb, HF2⟩ := hrel
        have hz := hF.size
        have hzb := hFb.size
        by_cases hlt : j < m ∧ j < 300
        · obtain ⟨h1, h2⟩ := hlt
          have hrd := hrd1.frm hF (fun _ _ f => f)
          obtain ⟨y, hy⟩ : ∃ y, ys[j]? = some y := ⟨_, List.getElem?_eq_getElem (by rw [HYL.out]; exact h1)⟩
          obtain ⟨b, off, rfl, hbl, d0, d1, d2⟩ := hrd.lay j h1 y hy
          obtain ⟨hya, hyb⟩ := HY0.out y (List.mem_of_getElem? hy)
          have HY := Lib.hid hy
          clear hy
          obtain ⟨yk, ya, yb⟩ := y
          simp only at hya hyb d0 d1 d2
          have HP := pickN_lt ya Q (by omega)
          have hset := setN F2 g vs2 (tr ++ tr2) (pickN ya Q) yb
          generalize hpq : pickN ya Q = p at *
          have hlen := HH.out.2.1
          have htl := HH.out.1
          have hvb2 : vs2.length ≤ 1073741824 := by omega
          have htb : (tr ++ tr2).length ≤ 1073741824 := by rw [List.length_append, HK.out, htl]; omega
          have hpv : p < vs2.length := by omega
          have HPQ := Lib.hid hpq
          have HS := Lib.hid hset
          clear hpq hlen htl hset
          have hzle : W.heap.size ≤ wr.heap.size := hF.size
          go_upto_region 15 with fail
          go_cut [] from 69 to 115 (fun wy => ∃ e, SetPost F2 g wr.drew (vs2.set p yb) ((tr ++ tr2) ++ [((p : Int), (getC vs2 p).1)]) 0 e wy)
          case first =>
            go_region_law (first
              | (refine step_call (f := 16) rfl rfl Try.func16 (by kernel_rfl) rfl _ (by simp only [List.map_toArray, List.map_cons, List.map_nil]; rfl) ?_; refine (pick_calls ya Q _ hya hyb (by omega) (by omega)).mono ?_; rw [HPQ.out]; rintro e w' ⟨rfl, rfl⟩; refine ⟨_, rfl, ?_⟩)
              | (refine step_call (f := 18) rfl rfl Try.func18 (by kernel_rfl) rfl _ (by simp only [List.map_toArray, List.map_cons, List.map_nil]; rfl) ?_; refine (HS.out _ (hI.ce.frm (S := fun _ => False) ((Frm.refl _ _).drew) (fun _ _ h => h)) hvb2 htb hpv).mono ?_; rintro e w2 ⟨rfl, hC2, hf2⟩; refine ⟨_, rfl, ?_⟩))
            all_goals
              go_wp2_with fail
              go_meet
              exact ⟨_, rfl, hC2, hf2⟩
          case rest =>
            obtain ⟨e, _, hC2, hf2⟩ := hcut
            generalize wc = w2 at *
            have hD : Frm (fun _ => False) wr wr.drew := (Frm.refl _ _).drew
            have hI2 := (hI.frm hD (fun _ _ h => h)).set (by exact hzle) p yb hpv ⟨rfl, hC2, hf2⟩
            have hF2 := (hF.then hD (fun i h hi => h)).then hf2 (fun i h hi => by have := hI.f i h; omega)
            have hrd := hrd1.frm hF2 (fun _ _ f => f)
            obtain ⟨b', off', he, hbl, d0, d1, d2⟩ := hrd.lay j h1 _ HY.out
            cases he
            have hg : getC (vs2.set p yb) p = (yb, true) := by rw [getC, if_neg (by omega), Int.toNat_natCast, List.getElem?_set_self hpv]
            go_wp2_with fail
            refine (pick_calls ya Q _ hya hyb (by omega) (by omega)).mono ?_
            rw [HPQ.out]
            rintro e w' ⟨rfl, rfl⟩
            go_wp2_with fail
            refine (getCalls _ g _ _ p w2 hI2.ce (by rw [List.length_set]; exact hvb2) _ hg).mono ?_
            rintro e w' ⟨rfl, rfl⟩
            have hyy : (yb != yb) = false := by simp
            clear hg
            go_wp2
            go_roundw
            case measure => simp [intOf]; omega
            case rel =>
              refine ⟨j + 1, vs2.set p yb, tr2 ++ [((p : Int), (getC vs2 p).1)], _, by go_num, by omega, ⟨by rw [List.length_append, HH.out.1]; rfl, by rw [List.length_set]; exact HH.out.2.1, ?_⟩, by rw [← List.append_assoc]; exact hI2, hF2, (hFb.then hD (fun i h hi => h.elim)).then hf2 (fun i h hi => (HF2.out i h).resolve_right (by omega)), ?_⟩
              · rw [set_back vs2 p yb hpv tr2]; exact HH.out.2.2
              · rintro i (hi | hi)
                · exact HF2.out i hi
                · exact .inr (by simp at hi; omega)
        · go_wp2_with fail
          all_goals
            go_meet
            exact ⟨vs2, tr2, F2, ⟨by rw [HH.out.1]; exact hj, HH.out.2⟩, hI, hF, hFb, HF2⟩
    case rest =>
      obtain ⟨vs2, tr2, F2, HH, hI, hF, hFb, HF2⟩ := hcut
      generalize wc = wx at *
      obtain ⟨h1, h2, h3⟩ := HH.out
      have HTR2 := Lib.hid h1
      have HB2 := Lib.hid h3
      have HVL2 := Lib.hid h2
      have hvb2 : vs2.length ≤ 1073741824 := by omega
      have hin2 : InC vs2.length (tr ++ tr2) := hI.in_
      have HIN2 := Lib.hid hin2
      have htb : (tr ++ tr2).length ≤ 1073741824 := by rw [List.length_append, HK.out]; omega
      have hkl : k ≤ (tr ++ tr2).length := by rw [List.length_append, HK.out]; omega
      have hz := hF.size
      have hzb := hFb.size
      have hwas2 := hwas.frm hFb (fun i h hi => by have := h.1; omega)
      clear h1 h3 HH h2 hin2
      have hbk := backYes F2 g vs2 (tr ++ tr2) k wx hI.ce hkl HIN2.out hvb2 htb
      rw [show (tr ++ tr2).drop k = tr2 by rw [← HK.out, List.drop_left], show (tr ++ tr2).take k = tr by rw [← HK.out, List.take_left], HB2.out] at hbk
      go_wp2_with fail
      refine hbk.mono ?_
      rintro e w2 ⟨rfl, hC2, hf2⟩
      have hz2 := hf2.size
      have hF2' := hF.then hf2 (fun i h hi => by have := hI.f i h; omega)
      have hwas3 := hwas2.frm hf2 (fun i h hi => by rcases HF2.out i hi with h' | h'; have := h.1; omega; have := h.2; omega)
      clear hwas hwas2 hbk
      go_wp2_with fail
      refine (valuesC F2 g vs tr w2 hC2 hvb).mono ?_
      rintro e w3 ⟨nv, rfl, hnow, hf3⟩
      obtain ⟨An, cn, rfl⟩ := hnow.form
      have hC3 := hC2.low.frm hf3 (fun _ _ h => h)
      have hz3 := hf3.size
      go_wp2_with fail
      refine (values_calls w3 (hwas3.frm hf3 (fun _ _ h => h)) hnow.rd hvb).mono ?_
      rintro e w4 ⟨rfl, hf4⟩
      have hC4 := hC3.frm hf4 (fun _ _ h => h)
      have hz4 := hf4.size
      have hbz := backYes _ g vs tr 0 w4 hC4 (by omega) HIN.out hvb (by rw [HK.out]; omega)
      rw [List.drop_zero, HB3.out, List.take_zero] at hbz
      go_wp2_with fail
      refine hbz.mono ?_
      rintro e w5 ⟨rfl, hC5, hf5⟩
      have hz5 := hf5.size
      clear hbz
      go_wp2_with fail
      refine (valuesC _ g _ _ w5 hC5 (by simp; omega)).mono ?_
      rintro e w6 ⟨av, rfl, hall, hf6⟩
      have hC6 := hC5.low.frm hf6 (fun _ _ h => h)
      have hz6 := hf6.size
      rw [List.length_replicate] at hall
      obtain ⟨Aa, ca, rfl⟩ := hall.form
      have hF6 : Frm (fun _ => False) W w6 := (((hF2'.trans hf3).trans hf4).then hf5 (fun i h hi => by have := hI.f i h.1; omega)).trans hf6
      have hin0 : IntKind.i64.wrap (-1) = -1 := by decide
      go_wp2_with fail
      go_loopw [21] (fun i wr => ∃ (j : Nat), i = .int .i64 j ∧ j ≤ Q ∧ wr = w6) (fun i _ => Q - (intOf i).toNat)
      case atStart => exact ⟨0, rfl, by omega, rfl⟩
      case round =>
        obtain ⟨j, rfl, hj, rfl⟩ := hrel
        by_cases hjl : j < Q
        · obtain ⟨b, off, z, rfl, hbl, hz, hc⟩ := hall.rd.cell1 j hjl
          obtain rfl : z = -1 := by
            have := List.mem_of_getElem? hz
            exact List.eq_of_mem_replicate this
          clear hz
          go_wp2
          go_roundw
          case measure => simp [intOf]; omega
          case rel => exact ⟨j + 1, by go_num, by omega, trivial⟩
        · obtain rfl : j = Q := by omega
          go_wp2_with fail
          refine (markC _ g _ _ _ hC6).mono ?_
          rintro e w' ⟨rfl, rfl⟩
          go_wp2
          go_ret
          exact ⟨rfl, hF6⟩
end Go.Proofs.Ythlefnajbfkdbaa
