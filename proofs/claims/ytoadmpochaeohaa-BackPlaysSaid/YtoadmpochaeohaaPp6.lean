/-
  Reference 14: which fields an operation uses; one instruction; a program.
-/
import Derived.Test.YtoadmpochaeohaaPa14
import Derived.Test.YtoadmpochaeohaaPa16
import Derived.Deep.CutBlock
import Derived.Deep.DeepCutAuto
section
set_option linter.unusedVariables false
set_option linter.unusedSimpArgs false
set_option maxRecDepth 100000
namespace Go.Proofs.Ytoadmpochaeohaa
open Go.RowKit

/-- The fields, as the reference tells them. -/
def refV (op : Int) : Value := .agg #[.bool (ofV op).set, .bool (ofV op).x, .bool (ofV op).y, .bool ((ofV op).group || (ofV op).counter), .bool (op == 10), .bool (ofV op).next]
set_option maxHeartbeats 1600000 in
theorem refOf (op : Int) (w : World) : Calls Try.prog 46 #[.int .i64 op] w fun e w' => e = .returned (.tuple #[refV op, .bool (ofV op).ok]) ∧ Frm (fun _ => False) w w' := by
  by_cases h1 : op = 1
  · subst h1
    go_enter Try.func46, Try.ntmps46
    go_wp2
    exact bodyPost_ret (results_two rfl (RV.cell rfl (Blk.new w [.bool true, .bool false, .bool false, .bool false, .bool false, .bool true] 104) Try.underlying104 rfl (by kernel_rfl)) (RV.tmp rfl)) rfl ⟨rfl, (Frm.refl _ w).alloc _⟩
  by_cases h2 : op = 2
  · subst h2
    go_enter Try.func46, Try.ntmps46
    go_wp2
    exact bodyPost_ret (results_two rfl (RV.cell rfl (Blk.new w [.bool false, .bool true, .bool true, .bool false, .bool false, .bool false] 104) Try.underlying104 rfl (by kernel_rfl)) (RV.tmp rfl)) rfl ⟨rfl, (Frm.refl _ w).alloc _⟩
  by_cases h3 : op = 3
  · subst h3
    go_enter Try.func46, Try.ntmps46
    go_wp2
    exact bodyPost_ret (results_two rfl (RV.cell rfl (Blk.new w [.bool false, .bool true, .bool false, .bool false, .bool false, .bool false] 104) Try.underlying104 rfl (by kernel_rfl)) (RV.tmp rfl)) rfl ⟨rfl, (Frm.refl _ w).alloc _⟩
  by_cases h4 : op = 4
  · subst h4
    go_enter Try.func46, Try.ntmps46
    go_wp2
    exact bodyPost_ret (results_two rfl (RV.cell rfl (Blk.new w [.bool false, .bool false, .bool false, .bool false, .bool false, .bool true] 104) Try.underlying104 rfl (by kernel_rfl)) (RV.tmp rfl)) rfl ⟨rfl, (Frm.refl _ w).alloc _⟩
  by_cases h5 : op = 5
  · subst h5
    go_enter Try.func46, Try.ntmps46
    go_wp2
    exact bodyPost_ret (results_two rfl (RV.cell rfl (Blk.new w [.bool false, .bool false, .bool false, .bool false, .bool false, .bool true] 104) Try.underlying104 rfl (by kernel_rfl)) (RV.tmp rfl)) rfl ⟨rfl, (Frm.refl _ w).alloc _⟩
  by_cases h6 : op = 6
  · subst h6
    go_enter Try.func46, Try.ntmps46
    go_wp2
    exact bodyPost_ret (results_two rfl (RV.cell rfl (Blk.new w [.bool false, .bool false, .bool false, .bool true, .bool false, .bool true] 104) Try.underlying104 rfl (by kernel_rfl)) (RV.tmp rfl)) rfl ⟨rfl, (Frm.refl _ w).alloc _⟩
  by_cases h7 : op = 7
  · subst h7
    go_enter Try.func46, Try.ntmps46
    go_wp2
    exact bodyPost_ret (results_two rfl (RV.cell rfl (Blk.new w [.bool false, .bool false, .bool false, .bool true, .bool false, .bool true] 104) Try.underlying104 rfl (by kernel_rfl)) (RV.tmp rfl)) rfl ⟨rfl, (Frm.refl _ w).alloc _⟩
  by_cases h8 : op = 8
  · subst h8
    go_enter Try.func46, Try.ntmps46
    go_wp2
    exact bodyPost_ret (results_two rfl (RV.cell rfl (Blk.new w [.bool false, .bool false, .bool false, .bool true, .bool false, .bool true] 104) Try.underlying104 rfl (by kernel_rfl)) (RV.tmp rfl)) rfl ⟨rfl, (Frm.refl _ w).alloc _⟩
  by_cases h9 : op = 9
  · subst h9
    go_enter Try.func46, Try.ntmps46
    go_wp2
    exact bodyPost_ret (results_two rfl (RV.cell rfl (Blk.new w [.bool false, .bool false, .bool false, .bool true, .bool false, .bool true] 104) Try.underlying104 rfl (by kernel_rfl)) (RV.tmp rfl)) rfl ⟨rfl, (Frm.refl _ w).alloc _⟩
  by_cases h10 : op = 10
  · subst h10
    go_enter Try.func46, Try.ntmps46
    go_wp2
    exact bodyPost_ret (results_two rfl (RV.cell rfl (Blk.new w [.bool false, .bool true, .bool true, .bool true, .bool true, .bool false] 104) Try.underlying104 rfl (by kernel_rfl)) (RV.tmp rfl)) rfl ⟨rfl, (Frm.refl _ w).alloc _⟩
  by_cases h11 : op = 11
  · subst h11
    go_enter Try.func46, Try.ntmps46
    go_wp2
    exact bodyPost_ret (results_two rfl (RV.cell rfl (Blk.new w [.bool false, .bool false, .bool false, .bool false, .bool false, .bool false] 104) Try.underlying104 rfl (by kernel_rfl)) (RV.tmp rfl)) rfl ⟨rfl, (Frm.refl _ w).alloc _⟩
  have hu : ofV op = ⟨false, false, false, false, false, false, false⟩ := by simp [ofV, h1, h2, h3, h4, h5, h6, h7, h8, h9, h10, h11]
  have hv : refV op = .agg #[.bool false, .bool false, .bool false, .bool false, .bool false, .bool false] := by simp [refV, hu, h10]
  rw [hu, hv]
  have t1 : (op == 1) = false := by simpa using h1
  have t2 : (op == 2) = false := by simpa using h2
  have t3 : (op == 3) = false := by simpa using h3
  have t4 : (op == 4) = false := by simpa using h4
  have t5 : (op == 5) = false := by simpa using h5
  have t6 : (op == 6) = false := by simpa using h6
  have t7 : (op == 7) = false := by simpa using h7
  have t8 : (op == 8) = false := by simpa using h8
  have t9 : (op == 9) = false := by simpa using h9
  have t10 : (op == 10) = false := by simpa using h10
  have t11 : (op == 11) = false := by simpa using h11
  clear hu hv
  go_enter Try.func46, Try.ntmps46
  go_wp2
  exact bodyPost_ret (results_two rfl (RV.cell rfl (Blk.new w [.bool false, .bool false, .bool false, .bool false, .bool false, .bool false] 104) Try.underlying104 rfl (by kernel_rfl)) (RV.tmp rfl)) rfl ⟨rfl, (Frm.refl _ w).alloc _⟩

attribute [local go_sem high] run_eqSet

set_option maxHeartbeats 8000000 in
set_option maxRecDepth 100000 in
theorem refFine (A : Option Addr) (n cp : Nat) (gr co : Int) (fo : Bool) (ins : List Ins) (G : Nat → Prop) (k : Nat) (i : Ins) (w : World) (hrd : Rd w G 10 A n cp (flatI ins)) (hi : ins[k]? = some i) (hn : n ≤ 40000) :
    Calls Try.prog 34 #[.agg #[.slice A n cp, .int .i64 gr, .int .i64 co, .bool fo], .int .i64 k] w fun e w' => e = .returned (.bool (fineB n gr co k i)) ∧ Frm (fun _ => False) w w' := by
  have hil : ins.length = n := by have := hrd.len; rw [flatI_len] at this; omega
  have hkn : k < n := by have := (List.getElem?_eq_some_iff.1 hi).1; omega
  have hf0 : Frm (fun _ => False) w (w.alloc (.cells #[.slice A n cp, .int .i64 gr, .int .i64 co, .bool fo] 24)) := (Frm.refl _ w).alloc _
  obtain ⟨b, off, rfl, hb, hci⟩ := (hrd.frm hf0 (fun _ _ h => h)).ins k i hi
  have hP := Blk.new w [.slice (some ⟨b, off, none⟩) n cp, .int .i64 gr, .int .i64 co, .bool fo] 24
  have e0 := hci 0 _ rfl
  have e1 := hci 1 _ rfl
  have e2 := hci 2 _ rfl
  have e3 := hci 3 _ rfl
  have e4 := hci 4 _ rfl
  have e5 := hci 5 _ rfl
  have e6 := hci 6 _ rfl
  have e7 := hci 7 _ rfl
  have e8 := hci 8 _ rfl
  have e9 := hci 9 _ rfl
  rw [Nat.add_zero] at e0
  obtain ⟨r, hr⟩ : ∃ r, fineB n gr co k i = r := ⟨_, rfl⟩
  have HR := Lib.hid hr
  rw [hr]
  clear hci hi hr hil hrd
  obtain ⟨iop, ix, iy, i_n, imn, imx, is0, is1, is2, is3⟩ := i
  simp only at e0 e1 e2 e3 e4 e5 e6 e7 e8 e9
  go_enter Try.func34, Try.ntmps34
  go_upto_region 1 with fail
  generalize w.alloc (.cells #[.slice (some ⟨b, off, none⟩) n cp, .int .i64 gr, .int .i64 co, .bool fo] 24) = w1 at *
  generalize w.heap.size = bp at *
  obtain ⟨p0, p1, p2, p3, q0, q1, q2, q3, lp⟩ := blk4 hP
  go_upto_region 2 with fail
  have hI := Blk.new w1 [.int .i64 iop, .int .i64 ix, .int .i64 iy, .int .i64 i_n, .int .i64 imn, .int .i64 imx, .int .u64 is0, .int .u64 is1, .int .u64 is2, .int .u64 is3] 39
  have hP1 := hP.alloc (.cells #[.int .i64 iop, .int .i64 ix, .int .i64 iy, .int .i64 i_n, .int .i64 imn, .int .i64 imx, .int .u64 is0, .int .u64 is1, .int .u64 is2, .int .u64 is3] 39)
  have hf1 := hf0.alloc (.cells #[.int .i64 iop, .int .i64 ix, .int .i64 iy, .int .i64 i_n, .int .i64 imn, .int .i64 imx, .int .u64 is0, .int .u64 is1, .int .u64 is2, .int .u64 is3] 39)
  generalize w1.alloc (.cells #[.int .i64 iop, .int .i64 ix, .int .i64 iy, .int .i64 i_n, .int .i64 imn, .int .i64 imx, .int .u64 is0, .int .u64 is1, .int .u64 is2, .int .u64 is3] 39) = w2 at *
  generalize w1.heap.size = bi at *
  clear e0 e1 e2 e3 e4 e5 e6 e7 e8 e9 p0 p1 p2 p3 q0 q1 q2 q3 lp
  have i0 := hI.cell 0
  simp only [List.getElem?_cons_zero] at i0
  have hil := hI.lt
  go_wp2_with fail
  refine (refOf iop w2).mono ?_
  rintro e w3 ⟨rfl, hf3⟩
  obtain ⟨u, hu⟩ : ∃ u, ofV iop = u := ⟨_, rfl⟩
  obtain ⟨ub, hub⟩ : ∃ ub, (iop == 10) = ub := ⟨_, rfl⟩
  have huc : (ofV iop).counter = (iop == 9 || iop == 10) := by
    by_cases h9 : iop = 9
    · subst h9; rfl
    · by_cases h10 : iop = 10
      · subst h10; rfl
      · have e1 : (iop == 9 || iop == 10) = false := by simp [h9, h10]
        rw [e1]
        unfold ofV
        simp only [h9, h10, if_false]
        repeat' split
        all_goals rfl
  rw [refV, hu, hub]
  rw [hu] at huc
  obtain ⟨us, ux, uy, ug, uc, un, uk⟩ := u
  simp only at huc
  have HU := Lib.hid hu
  have HUB := Lib.hid hub
  have HUC := Lib.hid huc
  have hN : ∃ num : Int, (if uc then co else gr) = num := ⟨_, rfl⟩
  obtain ⟨num, hnum⟩ := hN
  have HNUM := Lib.hid hnum
  obtain ⟨ugc, hugc⟩ : ∃ b, (ug || uc) = b := ⟨_, rfl⟩
  have HUGC := Lib.hid hugc
  simp only [hugc]
  clear hu hub huc hnum hugc i0
  have hU := Blk.new w3 [.bool us, .bool ux, .bool uy, .bool ugc, .bool ub, .bool un] 104
  have hI3 := (hI.frm hf3 (fun h => h)).alloc (.cells #[.bool us, .bool ux, .bool uy, .bool ugc, .bool ub, .bool un] 104)
  have hP3 := (hP1.frm hf3 (fun h => h)).alloc (.cells #[.bool us, .bool ux, .bool uy, .bool ugc, .bool ub, .bool un] 104)
  have hff := (hf1.trans hf3).alloc (.cells #[.bool us, .bool ux, .bool uy, .bool ugc, .bool ub, .bool un] 104)
  go_upto_region 3 with fail
  generalize w3.alloc (.cells #[.bool us, .bool ux, .bool uy, .bool ugc, .bool ub, .bool un] 104) = w4 at *
  generalize w3.heap.size = bu at *
  clear hI hP hP1 hf0 hf1 hf3
  obtain ⟨i0, i1, i2, i3, i4, i5, i6, i7, i8, i9, li⟩ : w4.cell? ⟨bi, 0, none⟩ = some (.int .i64 iop) ∧ w4.cell? ⟨bi, 1, none⟩ = some (.int .i64 ix) ∧ w4.cell? ⟨bi, 2, none⟩ = some (.int .i64 iy) ∧ w4.cell? ⟨bi, 3, none⟩ = some (.int .i64 i_n) ∧ w4.cell? ⟨bi, 4, none⟩ = some (.int .i64 imn) ∧ w4.cell? ⟨bi, 5, none⟩ = some (.int .i64 imx) ∧ w4.cell? ⟨bi, 6, none⟩ = some (.int .u64 is0) ∧ w4.cell? ⟨bi, 7, none⟩ = some (.int .u64 is1) ∧ w4.cell? ⟨bi, 8, none⟩ = some (.int .u64 is2) ∧ w4.cell? ⟨bi, 9, none⟩ = some (.int .u64 is3) ∧ bi < w4.heap.size :=
    ⟨hI3.cell 0, hI3.cell 1, hI3.cell 2, hI3.cell 3, hI3.cell 4, hI3.cell 5, hI3.cell 6, hI3.cell 7, hI3.cell 8, hI3.cell 9, hI3.lt⟩
  obtain ⟨p0, p1, p2, p3, q0, q1, q2, q3, lp⟩ := blk4 hP3
  obtain ⟨u0, u1, u2, u3, u4, u5, lu⟩ := blk6 hU
  obtain ⟨zz, hzz⟩ : ∃ zz, (is0 == 0 && (is1 == 0 && (is2 == 0 && is3 == 0))) = zz := ⟨_, rfl⟩
  have HZZ := Lib.hid hzz
  go_cut [35] from 23 to 35 (fun c wx => c = .bool (!uk || (!us && !zz)) ∧ wx = w4)
  case first =>
    cases uk <;> cases us <;> cases zz
    all_goals
      go_wp2_with fail
      go_meet
      exact ⟨rfl, rfl⟩
  case rest =>
    obtain ⟨rfl, rfl⟩ := hcut
    clear hzz
    cases hb3 : (!uk || (!us && !zz)) with
    | true =>
      have hfin : r = false := by
        rw [← HR.out, fineB]
        simp only [HU.out, HZZ.out]
        cases uk <;> cases us <;> cases zz <;> simp at hb3 ⊢
      go_wp2_with fail
      go_ret
      exact ⟨by rw [hfin]; rfl, hff⟩
    | false =>
      have HB3 := Lib.hid hb3
      clear hb3
      go_upto_region 6 with fail
      go_cut [45] from 38 to 45 (fun c wx => c = .bool uc ∧ wx = wc)
      case first =>
        by_cases h9 : iop = 9
        · subst h9
          have e : uc = true := by rw [HUC.out]; rfl
          clear HNUM
          go_wp2_with fail
          go_meet
          exact ⟨by rw [e], rfl⟩
        · have t9 : (iop == 9) = false := by simpa using h9
          have e : uc = (iop == 10) := by rw [HUC.out, t9]; rfl
          clear HNUM
          go_wp2_with fail
          go_meet
          exact ⟨by rw [e], rfl⟩
      case rest =>
        obtain ⟨rfl, hw⟩ := hcut
        subst hw
        go_upto_if 45 with fail
        go_cut [8] from 46 to 47 (fun c wx => c = .int .i64 num ∧ wx = wc)
        case first =>
          cases uc with
          | true =>
            have e : num = co := by rw [← HNUM.out]; rfl
            clear HNUM
            go_wp2_with fail
            go_meet
            exact ⟨by rw [e], rfl⟩
          | false =>
            have e : num = gr := by rw [← HNUM.out]; rfl
            clear HNUM
            go_wp2_with fail
            go_meet
            exact ⟨by rw [e], rfl⟩
        case rest =>
          obtain ⟨rfl, hw⟩ := hcut
          subst hw
          obtain ⟨okx, hokx⟩ : ∃ b, decide (0 ≤ ix ∧ ix < (n : Int)) = b := ⟨_, rfl⟩
          obtain ⟨oky, hoky⟩ : ∃ b, decide (0 ≤ iy ∧ iy < (n : Int)) = b := ⟨_, rfl⟩
          go_upto_region 9 with fail
          go_cut [10] from 51 to 59 (fun c wx => c = .bool okx ∧ wx = wc)
          case first =>
            by_cases h1 : 0 ≤ ix
            · by_cases h2 : ix < (n : Int)
              · have e : okx = true := by rw [← hokx]; simp [h1, h2]
                clear hokx hoky
                go_wp2_with fail
                go_meet
                exact ⟨by rw [e], rfl⟩
              · have e : okx = false := by rw [← hokx]; simp [h2]
                clear hokx hoky
                go_wp2_with fail
                go_meet
                exact ⟨by rw [e], rfl⟩
            · have e : okx = false := by rw [← hokx]; simp [h1]
              clear hokx hoky
              go_wp2_with fail
              go_meet
              exact ⟨by rw [e], rfl⟩
          case rest =>
            obtain ⟨rfl, hw⟩ := hcut
            subst hw
            go_upto_region 10 with fail
            go_cut [11] from 60 to 68 (fun c wx => c = .bool oky ∧ wx = wc)
            case first =>
              by_cases h1 : 0 ≤ iy
              · by_cases h2 : iy < (n : Int)
                · have e : oky = true := by rw [← hoky]; simp [h1, h2]
                  clear hokx hoky
                  go_wp2_with fail
                  go_meet
                  exact ⟨by rw [e], rfl⟩
                · have e : oky = false := by rw [← hoky]; simp [h2]
                  clear hokx hoky
                  go_wp2_with fail
                  go_meet
                  exact ⟨by rw [e], rfl⟩
              · have e : oky = false := by rw [← hoky]; simp [h1]
                clear hokx hoky
                go_wp2_with fail
                go_meet
                exact ⟨by rw [e], rfl⟩
            case rest =>
              obtain ⟨rfl, hw⟩ := hcut
              subst hw
              have hwx : withinB ux ix n = if ux then okx else ix == 0 := by rw [withinB, hokx]
              have hwy : withinB uy iy n = if uy then oky else iy == 0 := by rw [withinB, hoky]
              have HWX := Lib.hid hwx
              have HWY := Lib.hid hwy
              clear hokx hoky hwx hwy
              obtain ⟨zx, hzx⟩ : ∃ b, (ix == 0) = b := ⟨_, rfl⟩
              obtain ⟨zy, hzy⟩ : ∃ b, (iy == 0) = b := ⟨_, rfl⟩
              have nzx : (ix != 0) = !zx := by rw [← hzx]; rfl
              have nzy : (iy != 0) = !zy := by rw [← hzy]; rfl
              rw [hzx] at HWX
              rw [hzy] at HWY
              go_upto_region 11 with fail
              go_cut [102] from 69 to 102 (fun c wx => c = .bool (!((if ux then okx else zx) && (if uy then oky else zy))) ∧ wx = wc)
              case first =>
                cases ux <;> cases uy <;> cases okx <;> cases oky <;> cases zx <;> cases zy
                all_goals
                  go_wp2_with fail
                  go_meet
                  exact ⟨rfl, rfl⟩
              case rest =>
                obtain ⟨rfl, hw⟩ := hcut
                subst hw
                clear hzx hzy nzx nzy
                cases hb11 : (!((if ux then okx else zx) && (if uy then oky else zy))) with
                | true =>
                  have hfin : r = false := by
                    rw [← HR.out, fineB]
                    simp only [HU.out, HWX.out, HWY.out]
                    cases ux <;> cases uy <;> cases okx <;> cases oky <;> cases zx <;> cases zy <;> simp at hb11 ⊢
                  go_wp2_with fail
                  go_ret
                  exact ⟨by rw [hfin]; rfl, hff⟩
                | false =>
                  have HB11 := Lib.hid hb11
                  clear hb11
                  obtain ⟨okn, hokn⟩ : ∃ b, decide (0 ≤ i_n ∧ i_n < num) = b := ⟨_, rfl⟩
                  obtain ⟨zn, hzn⟩ : ∃ b, (i_n == 0) = b := ⟨_, rfl⟩
                  have hwn : withinB ugc i_n num = if ugc then okn else zn := by rw [withinB, hokn, hzn]
                  have HWN := Lib.hid hwn
                  have nzn : (i_n != 0) = !zn := by rw [← hzn]; rfl
                  go_upto_region 13 with fail
                  go_cut [125] from 103 to 125 (fun c wx => c = .bool (!(if ugc then okn else zn)) ∧ wx = wc)
                  case first =>
                    cases ugc with
                    | false =>
                      clear hokn hwn
                      cases zn
                      all_goals
                        go_wp2_with fail
                        go_meet
                        exact ⟨rfl, rfl⟩
                    | true =>
                      by_cases h1 : 0 ≤ i_n
                      · by_cases h2 : i_n < num
                        · have e : okn = true := by rw [← hokn]; simp [h1, h2]
                          have t1 : decide (i_n < 0) = false := decide_eq_false (by omega)
                          have t2 : decide (num ≤ i_n) = false := decide_eq_false (by omega)
                          clear hokn hwn hzn nzn
                          go_wp2_with fail
                          go_meet
                          exact ⟨by rw [e]; rfl, rfl⟩
                        · have e : okn = false := by rw [← hokn]; simp [h2]
                          have t1 : decide (i_n < 0) = false := decide_eq_false (by omega)
                          have t2 : decide (num ≤ i_n) = true := decide_eq_true (by omega)
                          clear hokn hwn hzn nzn
                          go_wp2_with fail
                          go_meet
                          exact ⟨by rw [e]; rfl, rfl⟩
                      · have e : okn = false := by rw [← hokn]; simp [h1]
                        have t1 : decide (i_n < 0) = true := decide_eq_true (by omega)
                        clear hokn hwn hzn nzn
                        go_wp2_with fail
                        go_meet
                        exact ⟨by rw [e]; rfl, rfl⟩
                  case rest =>
                    obtain ⟨rfl, hw⟩ := hcut
                    subst hw
                    clear hokn hzn hwn nzn
                    cases hb13 : (!(if ugc then okn else zn)) with
                    | true =>
                      have hfin : r = false := by
                        rw [← HR.out, fineB]
                        simp only [HU.out, HUGC.out, HNUM.out, HWN.out]
                        cases ugc <;> cases okn <;> cases zn <;> simp at hb13 ⊢
                      go_wp2_with fail
                      go_ret
                      exact ⟨by rw [hfin]; rfl, hff⟩
                    | false =>
                      have HB13 := Lib.hid hb13
                      clear hb13
                      obtain ⟨zmn, hzmn⟩ : ∃ b, (imn == 0) = b := ⟨_, rfl⟩
                      obtain ⟨zmx, hzmx⟩ : ∃ b, (imx == 0) = b := ⟨_, rfl⟩
                      obtain ⟨okb, hokb⟩ : ∃ b, decide (0 ≤ imn ∧ imn ≤ 255 ∧ (imx = -1 ∨ (imn ≤ imx ∧ imx ≤ 255))) = b := ⟨_, rfl⟩
                      have hbo : boundsB ⟨iop, ix, iy, i_n, imn, imx, is0, is1, is2, is3⟩ = if ub then okb else (zmn && zmx) := by
                        rw [boundsB, ← HUB.out, ← hokb, ← hzmn, ← hzmx]
                        by_cases h10 : iop = 10
                        · simp [h10]
                        · have e : (iop == 10) = false := by simpa using h10
                          rw [if_neg h10, e]
                          by_cases g1 : imn = 0 <;> by_cases g2 : imx = 0 <;> simp [g1, g2]
                      have HBO := Lib.hid hbo
                      have nmn : (imn != 0) = !zmn := by rw [← hzmn]; rfl
                      have nmx : (imx != 0) = !zmx := by rw [← hzmx]; rfl
                      have HOKB := Lib.hid hokb
                      clear hbo hokb
                      go_upto_region 15 with fail
                      go_cut [138] from 126 to 138 (fun c wx => c = .bool (!ub && !(zmn && zmx)) ∧ wx = wc)
                      case first =>
                        cases ub <;> cases zmn <;> cases zmx
                        all_goals
                          go_wp2_with fail
                          go_meet
                          exact ⟨rfl, rfl⟩
                      case rest =>
                        obtain ⟨rfl, hw⟩ := hcut
                        subst hw
                        clear hzmn hzmx nmn nmx
                        cases hb15 : (!ub && !(zmn && zmx)) with
                        | true =>
                          have hfin : r = false := by
                            rw [← HR.out, fineB]
                            simp only [HU.out, HBO.out]
                            cases ub <;> cases zmn <;> cases zmx <;> simp at hb15 ⊢
                          go_wp2_with fail
                          go_ret
                          exact ⟨by rw [hfin]; rfl, hff⟩
                        | false =>
                          have HB15 := Lib.hid hb15
                          clear hb15
                          go_upto_region 17 with fail
                          go_cut [167] from 139 to 167 (fun c wx => c = .bool (ub && !okb) ∧ wx = wc)
                          case first =>
                            cases ub with
                            | false =>
                              go_wp2_with fail
                              go_meet
                              exact ⟨rfl, rfl⟩
                            | true =>
                              by_cases h1 : imn < 0
                              · have e : okb = false := by rw [← HOKB.out]; exact decide_eq_false (by omega)
                                have t1 : decide (imn < 0) = true := decide_eq_true h1
                                go_wp2_with fail
                                go_meet
                                exact ⟨by rw [e]; rfl, rfl⟩
                              · have t1 : decide (imn < 0) = false := decide_eq_false h1
                                by_cases h2 : 255 < imn
                                · have e : okb = false := by rw [← HOKB.out]; exact decide_eq_false (by omega)
                                  have t2 : decide (255 < imn) = true := decide_eq_true h2
                                  go_wp2_with fail
                                  go_meet
                                  exact ⟨by rw [e]; rfl, rfl⟩
                                · have t2 : decide (255 < imn) = false := decide_eq_false h2
                                  by_cases h3 : imx = -1
                                  · have e : okb = true := by rw [← HOKB.out]; exact decide_eq_true (by omega)
                                    subst h3
                                    go_wp2_with fail
                                    go_meet
                                    exact ⟨by rw [e]; rfl, rfl⟩
                                  · have t3 : (imx != -1) = true := by simpa using h3
                                    by_cases h4 : imx < imn
                                    · have e : okb = false := by rw [← HOKB.out]; exact decide_eq_false (by omega)
                                      have t4 : decide (imx < imn) = true := decide_eq_true h4
                                      go_wp2_with fail
                                      go_meet
                                      exact ⟨by rw [e]; rfl, rfl⟩
                                    · have t4 : decide (imx < imn) = false := decide_eq_false h4
                                      by_cases h5 : 255 < imx
                                      · have e : okb = false := by rw [← HOKB.out]; exact decide_eq_false (by omega)
                                        have t5 : decide (255 < imx) = true := decide_eq_true h5
                                        go_wp2_with fail
                                        go_meet
                                        exact ⟨by rw [e]; rfl, rfl⟩
                                      · have e : okb = true := by rw [← HOKB.out]; exact decide_eq_true (by omega)
                                        have t5 : decide (255 < imx) = false := decide_eq_false h5
                                        go_wp2_with fail
                                        go_meet
                                        exact ⟨by rw [e]; rfl, rfl⟩
                          case rest =>
                            obtain ⟨rfl, hw⟩ := hcut
                            subst hw
                            cases hb17 : (ub && !okb) with
                            | true =>
                              have hfin : r = false := by
                                rw [← HR.out, fineB]
                                simp only [HU.out, HBO.out]
                                cases ub <;> cases okb <;> simp at hb17 ⊢
                              go_wp2_with fail
                              go_ret
                              exact ⟨by rw [hfin]; rfl, hff⟩
                            | false =>
                              have HB17 := Lib.hid hb17
                              clear hb17
                              have hfin : r = (!un || decide (k + 1 < n)) := by
                                rw [← HR.out, fineB]
                                simp only [HU.out, HZZ.out, HWX.out, HWY.out, HUGC.out, HNUM.out, HWN.out, HBO.out]
                                have b3 := HB3.out
                                have b11 := HB11.out
                                have b13 := HB13.out
                                have b15 := HB15.out
                                have b17 := HB17.out
                                clear HR HU HUC HUB HNUM HUGC HZZ HWX HWY HWN HBO HOKB HB3 HB11 HB13 HB15 HB17
                                generalize (if ux = true then okx else zx) = a1 at *
                                generalize (if uy = true then oky else zy) = a2 at *
                                generalize (if ugc = true then okn else zn) = a3 at *
                                have e1 : uk = true ∧ (us || zz) = true := by cases uk <;> cases us <;> cases zz <;> simp at b3 ⊢
                                have e2 : a1 = true ∧ a2 = true := by cases a1 <;> cases a2 <;> simp at b11 ⊢
                                have e3 : a3 = true := by cases a3 <;> simp at b13 ⊢
                                have e4 : (if ub = true then okb else (zmn && zmx)) = true := by cases ub <;> cases okb <;> cases zmn <;> cases zmx <;> simp at b15 b17 ⊢
                                rw [e1.1, e1.2, e2.1, e2.2, e3, e4]
                                simp
                              have hw1 : IntKind.i64.wrap ((n : Int) - 1) = (n : Int) - 1 := IntWalk.i64_in _ (by omega)
                              have HFI := Lib.hid hfin
                              clear hfin HR HU HUC HUB HNUM HUGC HZZ HWX HWY HWN HBO HOKB HB3 HB11 HB13 HB15 HB17
                              cases un with
                              | false =>
                                go_wp2_with fail
                                go_ret
                                exact ⟨by rw [HFI.out]; rfl, hff⟩
                              | true =>
                                by_cases hk1 : k + 1 < n
                                · have t1 : decide ((k : Int) < (n : Int) - 1) = true := decide_eq_true (by omega)
                                  go_wp2_with fail
                                  go_ret
                                  exact ⟨by rw [HFI.out]; simp [hk1] <;> omega, hff⟩
                                · have t1 : decide ((k : Int) < (n : Int) - 1) = false := decide_eq_false (by omega)
                                  go_wp2_with fail
                                  go_ret
                                  exact ⟨by rw [HFI.out]; simp [hk1] <;> omega, hff⟩
end Go.Proofs.Ytoadmpochaeohaa
end

section
set_option linter.unusedVariables false
set_option linter.unusedSimpArgs false
set_option maxRecDepth 100000
namespace Go.Proofs.Ytoadmpochaeohaa
open Go.RowKit

set_option maxHeartbeats 4000000 in
theorem refRight (A : Option Addr) (n cp : Nat) (gr co : Int) (fo : Bool) (ins : List Ins) (G : Nat → Prop) (w : World) (hrd : Rd w G 10 A n cp (flatI ins)) :
    Calls Try.prog 13 #[.agg #[.slice A n cp, .int .i64 gr, .int .i64 co, .bool fo]] w fun e w' => (∃ k : Int, e = .returned (.tuple #[.int .i64 (rightE ins gr co), .int .i64 k])) ∧ Frm (fun _ => False) w w' := by
  have hil : ins.length = n := by have := hrd.len; rw [flatI_len] at this; omega
  subst hil
  obtain ⟨r, hr⟩ : ∃ r, rightE ins gr co = r := ⟨_, rfl⟩
  rw [hr]
  have HR := Lib.hid hr
  clear hr
  have hf0 : Frm (fun _ => False) w (w.alloc (.cells #[.slice A ins.length cp, .int .i64 gr, .int .i64 co, .bool fo] 24)) := (Frm.refl _ w).alloc _
  have hP := Blk.new w [.slice A ins.length cp, .int .i64 gr, .int .i64 co, .bool fo] 24
  have p0 := hP.cell 0
  have p1 := hP.cell 1
  have p2 := hP.cell 2
  have p3 := hP.cell 3
  simp only [List.getElem?_cons_zero, List.getElem?_cons_succ] at p0 p1 p2 p3
  go_enter Try.func13, Try.ntmps13
  go_upto_region 1 with fail
  generalize w.alloc (.cells #[.slice A ins.length cp, .int .i64 gr, .int .i64 co, .bool fo] 24) = w1 at *
  generalize w.heap.size = bp at *
  have hlp := hP.lt
  generalize hn : ins.length = n at *
  have HN := Lib.hid hn
  clear hn
  by_cases h1 : 40000 < n
  · obtain rfl : 42 = r := by rw [← HR.out, rightE, HN.out, if_pos h1]
    have t1 : decide (40000 < (n : Int)) = true := decide_eq_true (by omega)
    go_wp2_with fail
    go_ret2
    exact ⟨⟨_, rfl⟩, hf0⟩
  · have t1 : decide (40000 < (n : Int)) = false := decide_eq_false (by omega)
    by_cases h2 : gr < 0
    · obtain rfl : 1 = r := by rw [← HR.out, rightE, HN.out, if_neg h1, if_pos (.inl h2)]
      have t2 : decide (gr < 0) = true := decide_eq_true h2
      go_wp2_with fail
      go_ret2
      exact ⟨⟨_, rfl⟩, hf0⟩
    · have t2 : decide (gr < 0) = false := decide_eq_false h2
      by_cases h3 : 30 < gr
      · obtain rfl : 1 = r := by rw [← HR.out, rightE, HN.out, if_neg h1, if_pos (.inr (.inl h3))]
        have t3 : decide (30 < gr) = true := decide_eq_true h3
        go_wp2_with fail
        go_ret2
        exact ⟨⟨_, rfl⟩, hf0⟩
      · have t3 : decide (30 < gr) = false := decide_eq_false h3
        by_cases h4 : co < 0
        · obtain rfl : 1 = r := by rw [← HR.out, rightE, HN.out, if_neg h1, if_pos (.inr (.inr (.inl h4)))]
          have t4 : decide (co < 0) = true := decide_eq_true h4
          go_wp2_with fail
          go_ret2
          exact ⟨⟨_, rfl⟩, hf0⟩
        · have t4 : decide (co < 0) = false := decide_eq_false h4
          by_cases h5 : 40 < co
          · obtain rfl : 1 = r := by rw [← HR.out, rightE, HN.out, if_neg h1, if_pos (.inr (.inr (.inr h5)))]
            have t5 : decide (40 < co) = true := decide_eq_true h5
            go_wp2_with fail
            go_ret2
            exact ⟨⟨_, rfl⟩, hf0⟩
          · have t5 : decide (40 < co) = false := decide_eq_false h5
            have hng : ¬ (gr < 0 ∨ 30 < gr ∨ co < 0 ∨ 40 < co) := by omega
            have hr2 : (if n = 0 then 60 else if allFine gr co ins n then (0 : Int) else 60) = r := by rw [← HR.out, rightE, HN.out, if_neg h1, if_neg hng]
            have HR2 := Lib.hid hr2
            clear hr2 HR hng
            go_wp2_with fail
            go_loopw [4] (fun i wr => ∃ (k : Nat), i = .int .i64 k ∧ k ≤ n ∧ Frm (fun _ => False) w1 wr ∧ Hid (allFine gr co ins k = true)) (fun i _ => n - (intOf i).toNat)
            case atStart => exact ⟨0, rfl, by omega, Frm.refl _ _, by rw [Hid]; rfl⟩
            case round =>
              obtain ⟨k, rfl, hk, hf, HA⟩ := hrel
              have hPr := hP.frm hf (fun h => h)
              have hff : Frm (fun _ => False) w wr := hf0.trans hf
              clear p0 p1 p2 p3
              have p0 := hPr.cell 0
              have p1 := hPr.cell 1
              have p2 := hPr.cell 2
              have p3 := hPr.cell 3
              simp only [List.getElem?_cons_zero, List.getElem?_cons_succ] at p0 p1 p2 p3
              have lp := hPr.lt
              by_cases hkn : k < n
              · obtain ⟨i, hi⟩ : ∃ i, ins[k]? = some i := ⟨_, List.getElem?_eq_getElem (by rw [HN.out]; exact hkn)⟩
                have hfa : fineAt gr co ins k = fineB n gr co k i := by rw [fineAt, hi, HN.out]
                have hsucc : allFine gr co ins (k + 1) = (allFine gr co ins k && fineB n gr co k i) := by rw [allFine, List.range_succ, List.all_append, ← allFine]; simp [hfa]
                have HSU := Lib.hid hsucc
                have HFC := Lib.hid (refFine A n cp gr co fo ins G k i wr (hrd.frm hff (fun _ _ h => h)) hi (by omega))
                have hfn : fineB n gr co k i = false → allFine gr co ins n = false := fun h => by
                  rw [allFine, List.all_eq_false]
                  exact ⟨k, List.mem_range.2 hkn, by rw [hfa, h]; simp⟩
                have HFN := Lib.hid hfn
                clear hi hfa hsucc hfn
                go_wp2_with fail
                refine HFC.out.mono ?_
                rintro e w3 ⟨rfl, hf3⟩
                cases hb : fineB n gr co k i with
                | false =>
                  have hr0 : (60 : Int) = r := by rw [← HR2.out, HFN.out hb, if_neg (by omega)]; rfl
                  subst hr0
                  clear hb
                  go_wp2_with fail
                  go_ret2
                  exact ⟨⟨_, rfl⟩, hff.trans hf3⟩
                | true =>
                  have HB := Lib.hid hb
                  clear hb
                  go_wp2_with fail
                  go_roundw
                  case measure => simp [intOf] <;> omega
                  case rel => exact ⟨k + 1, by go_num, by omega, hf.trans hf3, by rw [Hid, HSU.out, HA.out, HB.out]; rfl⟩
              · obtain rfl : k = n := by omega
                by_cases h6 : k = 0
                · obtain rfl : (60 : Int) = r := by rw [← HR2.out, if_pos h6]
                  subst h6
                  go_wp2_with fail
                  go_ret2
                  exact ⟨⟨_, rfl⟩, hff⟩
                · obtain rfl : (0 : Int) = r := by rw [← HR2.out, HA.out, if_neg h6]; rfl
                  have t6 : ((k : Int) == 0) = false := by simp; omega
                  have t6' : ¬ ((k : Int) = 0) := by omega
                  go_wp2_with fail
                  go_ret2
                  exact ⟨⟨_, rfl⟩, hff⟩
end Go.Proofs.Ytoadmpochaeohaa
end
