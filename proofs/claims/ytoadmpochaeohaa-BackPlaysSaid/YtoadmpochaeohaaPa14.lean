/-
  'fine': may an instruction be one of a program?
-/
import Derived.Test.YtoadmpochaeohaaPa4
import Derived.ChangeKeysEq
import Derived.Sort.AtCall
section
set_option linter.unusedVariables false
set_option linter.unusedSimpArgs false
set_option maxRecDepth 100000
namespace Go.Proofs.Ytoadmpochaeohaa
open Go.RowKit

theorem infoU64 : (Try.prog.info? 35).map (fun i => (i.zero, i.size, i.bytes)) = some (some (.int .u64 0), 1, 8) := by kernel_rfl
theorem cellsU64 : Try.prog.cellsOf 35 = 1 := by kernel_rfl
theorem run_eqSet (d : Nat) (w : World) (a0 a1 a2 a3 b0 b1 b2 b3 : Int) :
    (Op.equalIn (d + 2) 37 (.agg #[.int .u64 a0, .int .u64 a1, .int .u64 a2, .int .u64 a3]) (.agg #[.int .u64 b0, .int .u64 b1, .int .u64 b2, .int .u64 b3])).run Try.prog w = .ok (a0 == b0 && (a1 == b1 && (a2 == b2 && (a3 == b3)))) w := by
  obtain ⟨i, hi, _⟩ := info_parts infoU64
  rw [Go.run_equalIn_array w (d + 1) _ _ Try.underlying37 hi, cellsU64]
  rw [show List.range 4 = [0, 1, 2, 3] from rfl]
  simp only [Op.eqItems, Sem.run_bind]
  go_simp
  by_cases h0 : a0 = b0 <;> by_cases h1 : a1 = b1 <;> by_cases h2 : a2 = b2 <;> by_cases h3 : a3 = b3 <;> simp [h0, h1, h2, h3]

/-- May an instruction be number k of n? -/
def fineB (n : Nat) (gr co : Int) (k : Nat) (i : Ins) : Bool :=
  (ofV i.op).ok && ((ofV i.op).set || (i.s0 == 0 && (i.s1 == 0 && (i.s2 == 0 && (i.s3 == 0))))) && withinB (ofV i.op).x i.x n && withinB (ofV i.op).y i.y n &&
    withinB ((ofV i.op).group || (ofV i.op).counter) i.n (if (ofV i.op).counter then co else gr) && boundsB i && (!(ofV i.op).next || decide (k + 1 < n))

attribute [local go_sem high] run_eqSet

set_option maxHeartbeats 40000000 in
set_option maxRecDepth 100000 in
theorem fineC_false_false (A : Option Addr) (n cp : Nat) (gr co : Int) (fo : Bool) (ins : List Ins) (G : Nat → Prop) (k : Nat) (i : Ins) (w : World) (hrd : Rd w G 10 A n cp (flatI ins)) (hi : ins[k]? = some i) (hn : n ≤ 40000) (huc : (ofV i.op).counter = false) (hus : (ofV i.op).set = false) :
    Calls Try.prog 44 #[.agg #[.slice A n cp, .int .i64 gr, .int .i64 co, .bool fo], .int .i64 k] w fun e w' => e = .returned (.bool (fineB n gr co k i)) ∧ Frm (fun _ => False) w w' := by
  have hil : ins.length = n := by have := hrd.len; rw [flatI_len] at this; omega
  have hkn : k < n := by have := (List.getElem?_eq_some_iff.1 hi).1; omega
  obtain ⟨b, off, rfl, hb, hci⟩ := (hrd.frm (S := fun _ => False) ((Frm.refl _ w).alloc (.cells #[.slice A n cp, .int .i64 gr, .int .i64 co, .bool fo] 24)) (fun _ _ h => h)).ins k i hi
  have hP := Blk.new w [.slice (some ⟨b, off, none⟩) n cp, .int .i64 gr, .int .i64 co, .bool fo] 24
  have hf0 : Frm (fun _ => False) w (w.alloc (.cells #[.slice (some ⟨b, off, none⟩) n cp, .int .i64 gr, .int .i64 co, .bool fo] 24)) := (Frm.refl _ w).alloc _
  have e0 := hci 0 _ rfl
  have e1 := hci 1 _ rfl
  have e2 := hci 2 _ rfl
  have e3 := hci 3 _ rfl
  have e4 := hci 4 _ rfl
  have e5 := hci 5 _ rfl
  have e6 := hci 6 _ rfl
  have e7 := hci 7 _ rfl
  have e8 := hci 8 _ rfl
  have e9 := hci 9 _ rfl
  rw [Nat.add_zero] at e0
  have HFB : Hid (fineB n gr co k i = fineB n gr co k i) := rfl
  obtain ⟨r, hr⟩ : ∃ r, fineB n gr co k i = r := ⟨_, rfl⟩
  have HR := Lib.hid hr
  rw [hr]
  clear hci hi hr HFB hil hrd
  obtain ⟨iop, ix, iy, i_n, imn, imx, is0, is1, is2, is3⟩ := i
  simp only at e0 e1 e2 e3 e4 e5 e6 e7 e8 e9
  go_enter Try.func44, Try.ntmps44
  go_upto_region 1 with fail
  generalize w.alloc (.cells #[.slice (some ⟨b, off, none⟩) n cp, .int .i64 gr, .int .i64 co, .bool fo] 24) = w1 at *
  generalize w.heap.size = bp at *
  have p0 := hP.cell 0
  have p1 := hP.cell 1
  have p2 := hP.cell 2
  have p3 := hP.cell 3
  simp only [List.getElem?_cons_zero, List.getElem?_cons_succ] at p0 p1 p2 p3
  have hlp := hP.lt
  go_wp2_with fail
  refine (ofC iop _).mono ?_
  rintro e w2 ⟨rfl, hf2⟩
  have hI := (Blk.new w1 [.int .i64 iop, .int .i64 ix, .int .i64 iy, .int .i64 i_n, .int .i64 imn, .int .i64 imx, .int .u64 is0, .int .u64 is1, .int .u64 is2, .int .u64 is3] 39).frm hf2 (fun h => h)
  have hP2 := (hP.alloc (.cells #[.int .i64 iop, .int .i64 ix, .int .i64 iy, .int .i64 i_n, .int .i64 imn, .int .i64 imx, .int .u64 is0, .int .u64 is1, .int .u64 is2, .int .u64 is3] 39)).frm hf2 (fun h => h)
  have hff : Frm (fun _ => False) w w2 := (hf0.alloc _).trans hf2
  clear p0 p1 p2 p3 e0 e1 e2 e3 e4 e5 e6 e7 e8 e9
  have HR' : Hid (fineB n gr co k ⟨iop, ix, iy, i_n, imn, imx, is0, is1, is2, is3⟩ = r) := HR
  obtain ⟨u, hu⟩ : ∃ u, ofV iop = u := ⟨_, rfl⟩
  rw [Hid, fineB] at HR'
  simp only at HR'
  try simp only at huc hus
  rw [hu] at HR' huc hus ⊢
  clear hu HR
  obtain ⟨us, ux, uy, ug, uc, un, uk⟩ := u
  simp only at HR'
  try simp only at huc hus
  subst huc hus
  dsimp only [Us.val]
  have HR2 := Lib.hid HR'
  clear HR'
  have HR' := HR2
  clear HR2
  have hU := Blk.new w2 [.bool false, .bool ux, .bool uy, .bool ug, .bool false, .bool un] 151
  have hI2 := hI.alloc (.cells #[.bool false, .bool ux, .bool uy, .bool ug, .bool false, .bool un] 151)
  have hP3 := hP2.alloc (.cells #[.bool false, .bool ux, .bool uy, .bool ug, .bool false, .bool un] 151)
  have hf3 := hff.alloc (.cells #[.bool false, .bool ux, .bool uy, .bool ug, .bool false, .bool un] 151)
  go_upto_region 3 with fail
  generalize w2.alloc (.cells #[.bool false, .bool ux, .bool uy, .bool ug, .bool false, .bool un] 151) = w3 at *
  generalize w2.heap.size = bu at *
  generalize w1.heap.size = bi at *
  have p0 := hP3.cell 0
  have p1 := hP3.cell 1
  have p2 := hP3.cell 2
  have i0 := hI2.cell 0
  have i1 := hI2.cell 1
  have i2 := hI2.cell 2
  have i3 := hI2.cell 3
  have i4 := hI2.cell 4
  have i5 := hI2.cell 5
  have i6 := hI2.cell 6
  have i7 := hI2.cell 7
  have i8 := hI2.cell 8
  have i9 := hI2.cell 9
  have u0 := hU.cell 0
  have u1 := hU.cell 1
  have u2 := hU.cell 2
  have u3 := hU.cell 3
  have u4 := hU.cell 4
  have u5 := hU.cell 5
  simp only [List.getElem?_cons_zero, List.getElem?_cons_succ] at p0 p1 p2 i0 i1 i2 i3 i4 i5 i6 i7 i8 i9 u0 u1 u2 u3 u4 u5
  have hlu := hU.lt
  clear hf2 hff hI hP2
  cases uk with
  | false =>
    go_wp2_with (first | (go_at_call_has 65 ix; refine (HWX.out _).mono ?_; rintro e w' ⟨rfl, rfl⟩) | (go_at_call_has 65 iy; refine (HWY.out _).mono ?_; rintro e w' ⟨rfl, rfl⟩) | (go_at_call_has 65 i_n; refine (HWN.out _).mono ?_; rintro e w' ⟨rfl, rfl⟩) | (go_at_call 66; refine (HBO.out _).mono ?_; rintro e w9 ⟨rfl, hf9⟩; have g9 := (hU.frm hf9 (fun h => h)).cell 5; simp only [List.getElem?_cons_zero, List.getElem?_cons_succ] at g9))
    go_ret
    refine ⟨?_, by first | exact hf3.trans hf9 | exact hf3⟩
    rw [← HR'.out]
    simp [] <;> omega
  | true =>
    by_cases hs : (is0 == 0 && (is1 == 0 && (is2 == 0 && is3 == 0))) = true
    · have hs1 : is0 = 0 ∧ is1 = 0 ∧ is2 = 0 ∧ is3 = 0 := by simpa using hs
      obtain ⟨s1, s2, s3, s4⟩ := hs1
      subst s1 s2 s3 s4
      clear hs
      cases hx : withinB ux ix n with
      | false =>
        have HWX := Lib.hid (fun w => hx ▸ withinC ux ix n w)
        go_wp2_with (first | (go_at_call_has 65 ix; refine (HWX.out _).mono ?_; rintro e w' ⟨rfl, rfl⟩) | (go_at_call_has 65 iy; refine (HWY.out _).mono ?_; rintro e w' ⟨rfl, rfl⟩) | (go_at_call_has 65 i_n; refine (HWN.out _).mono ?_; rintro e w' ⟨rfl, rfl⟩) | (go_at_call 66; refine (HBO.out _).mono ?_; rintro e w9 ⟨rfl, hf9⟩; have g9 := (hU.frm hf9 (fun h => h)).cell 5; simp only [List.getElem?_cons_zero, List.getElem?_cons_succ] at g9))
        go_ret
        refine ⟨?_, by first | exact hf3.trans hf9 | exact hf3⟩
        rw [← HR'.out]
        simp [hx] <;> omega
      | true =>
        have HWX := Lib.hid (fun w => hx ▸ withinC ux ix n w)
        cases hy : withinB uy iy n with
        | false =>
          have HWY := Lib.hid (fun w => hy ▸ withinC uy iy n w)
          go_wp2_with (first | (go_at_call_has 65 ix; refine (HWX.out _).mono ?_; rintro e w' ⟨rfl, rfl⟩) | (go_at_call_has 65 iy; refine (HWY.out _).mono ?_; rintro e w' ⟨rfl, rfl⟩) | (go_at_call_has 65 i_n; refine (HWN.out _).mono ?_; rintro e w' ⟨rfl, rfl⟩) | (go_at_call 66; refine (HBO.out _).mono ?_; rintro e w9 ⟨rfl, hf9⟩; have g9 := (hU.frm hf9 (fun h => h)).cell 5; simp only [List.getElem?_cons_zero, List.getElem?_cons_succ] at g9))
          go_ret
          refine ⟨?_, by first | exact hf3.trans hf9 | exact hf3⟩
          rw [← HR'.out]
          simp [hx, hy] <;> omega
        | true =>
          have HWY := Lib.hid (fun w => hy ▸ withinC uy iy n w)
          cases ug with
          | false =>
            cases hn2 : withinB false i_n gr with
            | false =>
              have HWN := Lib.hid (fun w => hn2 ▸ withinC false i_n gr w)
              go_wp2_with (first | (go_at_call_has 65 ix; refine (HWX.out _).mono ?_; rintro e w' ⟨rfl, rfl⟩) | (go_at_call_has 65 iy; refine (HWY.out _).mono ?_; rintro e w' ⟨rfl, rfl⟩) | (go_at_call_has 65 i_n; refine (HWN.out _).mono ?_; rintro e w' ⟨rfl, rfl⟩) | (go_at_call 66; refine (HBO.out _).mono ?_; rintro e w9 ⟨rfl, hf9⟩; have g9 := (hU.frm hf9 (fun h => h)).cell 5; simp only [List.getElem?_cons_zero, List.getElem?_cons_succ] at g9))
              go_ret
              refine ⟨?_, by first | exact hf3.trans hf9 | exact hf3⟩
              rw [← HR'.out]
              simp [hx, hy, hn2] <;> omega
            | true =>
              have HWN := Lib.hid (fun w => hn2 ▸ withinC false i_n gr w)
              cases hb2 : boundsB ⟨iop, ix, iy, i_n, imn, imx, 0, 0, 0, 0⟩ with
              | false =>
                have HBO := Lib.hid (fun w => hb2 ▸ boundsC ⟨iop, ix, iy, i_n, imn, imx, 0, 0, 0, 0⟩ w)
                go_wp2_with (first | (go_at_call_has 65 ix; refine (HWX.out _).mono ?_; rintro e w' ⟨rfl, rfl⟩) | (go_at_call_has 65 iy; refine (HWY.out _).mono ?_; rintro e w' ⟨rfl, rfl⟩) | (go_at_call_has 65 i_n; refine (HWN.out _).mono ?_; rintro e w' ⟨rfl, rfl⟩) | (go_at_call 66; refine (HBO.out _).mono ?_; rintro e w9 ⟨rfl, hf9⟩; have g9 := (hU.frm hf9 (fun h => h)).cell 5; simp only [List.getElem?_cons_zero, List.getElem?_cons_succ] at g9))
                go_ret
                refine ⟨?_, by first | exact hf3.trans hf9 | exact hf3⟩
                rw [← HR'.out]
                simp [hx, hy, hn2, hb2] <;> omega
              | true =>
                have HBO := Lib.hid (fun w => hb2 ▸ boundsC ⟨iop, ix, iy, i_n, imn, imx, 0, 0, 0, 0⟩ w)
                cases un with
                | false =>
                  go_wp2_with (first | (go_at_call_has 65 ix; refine (HWX.out _).mono ?_; rintro e w' ⟨rfl, rfl⟩) | (go_at_call_has 65 iy; refine (HWY.out _).mono ?_; rintro e w' ⟨rfl, rfl⟩) | (go_at_call_has 65 i_n; refine (HWN.out _).mono ?_; rintro e w' ⟨rfl, rfl⟩) | (go_at_call 66; refine (HBO.out _).mono ?_; rintro e w9 ⟨rfl, hf9⟩; have g9 := (hU.frm hf9 (fun h => h)).cell 5; simp only [List.getElem?_cons_zero, List.getElem?_cons_succ] at g9))
                  go_ret
                  refine ⟨?_, by first | exact hf3.trans hf9 | exact hf3⟩
                  rw [← HR'.out]
                  simp [hx, hy, hn2, hb2] <;> omega
                | true =>
                  go_wp2_with (first | (go_at_call_has 65 ix; refine (HWX.out _).mono ?_; rintro e w' ⟨rfl, rfl⟩) | (go_at_call_has 65 iy; refine (HWY.out _).mono ?_; rintro e w' ⟨rfl, rfl⟩) | (go_at_call_has 65 i_n; refine (HWN.out _).mono ?_; rintro e w' ⟨rfl, rfl⟩) | (go_at_call 66; refine (HBO.out _).mono ?_; rintro e w9 ⟨rfl, hf9⟩; have g9 := (hU.frm hf9 (fun h => h)).cell 5; simp only [List.getElem?_cons_zero, List.getElem?_cons_succ] at g9))
                  go_ret
                  refine ⟨?_, by first | exact hf3.trans hf9 | exact hf3⟩
                  rw [← HR'.out]
                  simp [hx, hy, hn2, hb2] <;> omega
          | true =>
            cases hn2 : withinB true i_n gr with
            | false =>
              have HWN := Lib.hid (fun w => hn2 ▸ withinC true i_n gr w)
              go_wp2_with (first | (go_at_call_has 65 ix; refine (HWX.out _).mono ?_; rintro e w' ⟨rfl, rfl⟩) | (go_at_call_has 65 iy; refine (HWY.out _).mono ?_; rintro e w' ⟨rfl, rfl⟩) | (go_at_call_has 65 i_n; refine (HWN.out _).mono ?_; rintro e w' ⟨rfl, rfl⟩) | (go_at_call 66; refine (HBO.out _).mono ?_; rintro e w9 ⟨rfl, hf9⟩; have g9 := (hU.frm hf9 (fun h => h)).cell 5; simp only [List.getElem?_cons_zero, List.getElem?_cons_succ] at g9))
              go_ret
              refine ⟨?_, by first | exact hf3.trans hf9 | exact hf3⟩
              rw [← HR'.out]
              simp [hx, hy, hn2] <;> omega
            | true =>
              have HWN := Lib.hid (fun w => hn2 ▸ withinC true i_n gr w)
              cases hb2 : boundsB ⟨iop, ix, iy, i_n, imn, imx, 0, 0, 0, 0⟩ with
              | false =>
                have HBO := Lib.hid (fun w => hb2 ▸ boundsC ⟨iop, ix, iy, i_n, imn, imx, 0, 0, 0, 0⟩ w)
                go_wp2_with (first | (go_at_call_has 65 ix; refine (HWX.out _).mono ?_; rintro e w' ⟨rfl, rfl⟩) | (go_at_call_has 65 iy; refine (HWY.out _).mono ?_; rintro e w' ⟨rfl, rfl⟩) | (go_at_call_has 65 i_n; refine (HWN.out _).mono ?_; rintro e w' ⟨rfl, rfl⟩) | (go_at_call 66; refine (HBO.out _).mono ?_; rintro e w9 ⟨rfl, hf9⟩; have g9 := (hU.frm hf9 (fun h => h)).cell 5; simp only [List.getElem?_cons_zero, List.getElem?_cons_succ] at g9))
                go_ret
                refine ⟨?_, by first | exact hf3.trans hf9 | exact hf3⟩
                rw [← HR'.out]
                simp [hx, hy, hn2, hb2] <;> omega
              | true =>
                have HBO := Lib.hid (fun w => hb2 ▸ boundsC ⟨iop, ix, iy, i_n, imn, imx, 0, 0, 0, 0⟩ w)
                cases un with
                | false =>
                  go_wp2_with (first | (go_at_call_has 65 ix; refine (HWX.out _).mono ?_; rintro e w' ⟨rfl, rfl⟩) | (go_at_call_has 65 iy; refine (HWY.out _).mono ?_; rintro e w' ⟨rfl, rfl⟩) | (go_at_call_has 65 i_n; refine (HWN.out _).mono ?_; rintro e w' ⟨rfl, rfl⟩) | (go_at_call 66; refine (HBO.out _).mono ?_; rintro e w9 ⟨rfl, hf9⟩; have g9 := (hU.frm hf9 (fun h => h)).cell 5; simp only [List.getElem?_cons_zero, List.getElem?_cons_succ] at g9))
                  go_ret
                  refine ⟨?_, by first | exact hf3.trans hf9 | exact hf3⟩
                  rw [← HR'.out]
                  simp [hx, hy, hn2, hb2] <;> omega
                | true =>
                  go_wp2_with (first | (go_at_call_has 65 ix; refine (HWX.out _).mono ?_; rintro e w' ⟨rfl, rfl⟩) | (go_at_call_has 65 iy; refine (HWY.out _).mono ?_; rintro e w' ⟨rfl, rfl⟩) | (go_at_call_has 65 i_n; refine (HWN.out _).mono ?_; rintro e w' ⟨rfl, rfl⟩) | (go_at_call 66; refine (HBO.out _).mono ?_; rintro e w9 ⟨rfl, hf9⟩; have g9 := (hU.frm hf9 (fun h => h)).cell 5; simp only [List.getElem?_cons_zero, List.getElem?_cons_succ] at g9))
                  go_ret
                  refine ⟨?_, by first | exact hf3.trans hf9 | exact hf3⟩
                  rw [← HR'.out]
                  simp [hx, hy, hn2, hb2] <;> omega
    · have hs : (is0 == 0 && (is1 == 0 && (is2 == 0 && is3 == 0))) = false := by simpa using hs
      go_wp2_with (first | (go_at_call_has 65 ix; refine (HWX.out _).mono ?_; rintro e w' ⟨rfl, rfl⟩) | (go_at_call_has 65 iy; refine (HWY.out _).mono ?_; rintro e w' ⟨rfl, rfl⟩) | (go_at_call_has 65 i_n; refine (HWN.out _).mono ?_; rintro e w' ⟨rfl, rfl⟩) | (go_at_call 66; refine (HBO.out _).mono ?_; rintro e w9 ⟨rfl, hf9⟩; have g9 := (hU.frm hf9 (fun h => h)).cell 5; simp only [List.getElem?_cons_zero, List.getElem?_cons_succ] at g9))
      go_ret
      refine ⟨?_, by first | exact hf3.trans hf9 | exact hf3⟩
      rw [← HR'.out]
      simp [hs] <;> omega

set_option maxHeartbeats 40000000 in
set_option maxRecDepth 100000 in
theorem fineC_false_true (A : Option Addr) (n cp : Nat) (gr co : Int) (fo : Bool) (ins : List Ins) (G : Nat → Prop) (k : Nat) (i : Ins) (w : World) (hrd : Rd w G 10 A n cp (flatI ins)) (hi : ins[k]? = some i) (hn : n ≤ 40000) (huc : (ofV i.op).counter = false) (hus : (ofV i.op).set = true) :
    Calls Try.prog 44 #[.agg #[.slice A n cp, .int .i64 gr, .int .i64 co, .bool fo], .int .i64 k] w fun e w' => e = .returned (.bool (fineB n gr co k i)) ∧ Frm (fun _ => False) w w' := by
  have hil : ins.length = n := by have := hrd.len; rw [flatI_len] at this; omega
  have hkn : k < n := by have := (List.getElem?_eq_some_iff.1 hi).1; omega
  obtain ⟨b, off, rfl, hb, hci⟩ := (hrd.frm (S := fun _ => False) ((Frm.refl _ w).alloc (.cells #[.slice A n cp, .int .i64 gr, .int .i64 co, .bool fo] 24)) (fun _ _ h => h)).ins k i hi
  have hP := Blk.new w [.slice (some ⟨b, off, none⟩) n cp, .int .i64 gr, .int .i64 co, .bool fo] 24
  have hf0 : Frm (fun _ => False) w (w.alloc (.cells #[.slice (some ⟨b, off, none⟩) n cp, .int .i64 gr, .int .i64 co, .bool fo] 24)) := (Frm.refl _ w).alloc _
  have e0 := hci 0 _ rfl
  have e1 := hci 1 _ rfl
  have e2 := hci 2 _ rfl
  have e3 := hci 3 _ rfl
  have e4 := hci 4 _ rfl
  have e5 := hci 5 _ rfl
  have e6 := hci 6 _ rfl
  have e7 := hci 7 _ rfl
  have e8 := hci 8 _ rfl
  have e9 := hci 9 _ rfl
  rw [Nat.add_zero] at e0
  have HFB : Hid (fineB n gr co k i = fineB n gr co k i) := rfl
  obtain ⟨r, hr⟩ : ∃ r, fineB n gr co k i = r := ⟨_, rfl⟩
  have HR := Lib.hid hr
  rw [hr]
  clear hci hi hr HFB hil hrd
  obtain ⟨iop, ix, iy, i_n, imn, imx, is0, is1, is2, is3⟩ := i
  simp only at e0 e1 e2 e3 e4 e5 e6 e7 e8 e9
  go_enter Try.func44, Try.ntmps44
  go_upto_region 1 with fail
  generalize w.alloc (.cells #[.slice (some ⟨b, off, none⟩) n cp, .int .i64 gr, .int .i64 co, .bool fo] 24) = w1 at *
  generalize w.heap.size = bp at *
  have p0 := hP.cell 0
  have p1 := hP.cell 1
  have p2 := hP.cell 2
  have p3 := hP.cell 3
  simp only [List.getElem?_cons_zero, List.getElem?_cons_succ] at p0 p1 p2 p3
  have hlp := hP.lt
  go_wp2_with fail
  refine (ofC iop _).mono ?_
  rintro e w2 ⟨rfl, hf2⟩
  have hI := (Blk.new w1 [.int .i64 iop, .int .i64 ix, .int .i64 iy, .int .i64 i_n, .int .i64 imn, .int .i64 imx, .int .u64 is0, .int .u64 is1, .int .u64 is2, .int .u64 is3] 39).frm hf2 (fun h => h)
  have hP2 := (hP.alloc (.cells #[.int .i64 iop, .int .i64 ix, .int .i64 iy, .int .i64 i_n, .int .i64 imn, .int .i64 imx, .int .u64 is0, .int .u64 is1, .int .u64 is2, .int .u64 is3] 39)).frm hf2 (fun h => h)
  have hff : Frm (fun _ => False) w w2 := (hf0.alloc _).trans hf2
  clear p0 p1 p2 p3 e0 e1 e2 e3 e4 e5 e6 e7 e8 e9
  have HR' : Hid (fineB n gr co k ⟨iop, ix, iy, i_n, imn, imx, is0, is1, is2, is3⟩ = r) := HR
  obtain ⟨u, hu⟩ : ∃ u, ofV iop = u := ⟨_, rfl⟩
  rw [Hid, fineB] at HR'
  simp only at HR'
  try simp only at huc hus
  rw [hu] at HR' huc hus ⊢
  clear hu HR
  obtain ⟨us, ux, uy, ug, uc, un, uk⟩ := u
  simp only at HR'
  try simp only at huc hus
  subst huc hus
  dsimp only [Us.val]
  have HR2 := Lib.hid HR'
  clear HR'
  have HR' := HR2
  clear HR2
  have hU := Blk.new w2 [.bool true, .bool ux, .bool uy, .bool ug, .bool false, .bool un] 151
  have hI2 := hI.alloc (.cells #[.bool true, .bool ux, .bool uy, .bool ug, .bool false, .bool un] 151)
  have hP3 := hP2.alloc (.cells #[.bool true, .bool ux, .bool uy, .bool ug, .bool false, .bool un] 151)
  have hf3 := hff.alloc (.cells #[.bool true, .bool ux, .bool uy, .bool ug, .bool false, .bool un] 151)
  go_upto_region 3 with fail
  generalize w2.alloc (.cells #[.bool true, .bool ux, .bool uy, .bool ug, .bool false, .bool un] 151) = w3 at *
  generalize w2.heap.size = bu at *
  generalize w1.heap.size = bi at *
  have p0 := hP3.cell 0
  have p1 := hP3.cell 1
  have p2 := hP3.cell 2
  have i0 := hI2.cell 0
  have i1 := hI2.cell 1
  have i2 := hI2.cell 2
  have i3 := hI2.cell 3
  have i4 := hI2.cell 4
  have i5 := hI2.cell 5
  have i6 := hI2.cell 6
  have i7 := hI2.cell 7
  have i8 := hI2.cell 8
  have i9 := hI2.cell 9
  have u0 := hU.cell 0
  have u1 := hU.cell 1
  have u2 := hU.cell 2
  have u3 := hU.cell 3
  have u4 := hU.cell 4
  have u5 := hU.cell 5
  simp only [List.getElem?_cons_zero, List.getElem?_cons_succ] at p0 p1 p2 i0 i1 i2 i3 i4 i5 i6 i7 i8 i9 u0 u1 u2 u3 u4 u5
  have hlu := hU.lt
  clear hf2 hff hI hP2
  cases uk with
  | false =>
    go_wp2_with (first | (go_at_call_has 65 ix; refine (HWX.out _).mono ?_; rintro e w' ⟨rfl, rfl⟩) | (go_at_call_has 65 iy; refine (HWY.out _).mono ?_; rintro e w' ⟨rfl, rfl⟩) | (go_at_call_has 65 i_n; refine (HWN.out _).mono ?_; rintro e w' ⟨rfl, rfl⟩) | (go_at_call 66; refine (HBO.out _).mono ?_; rintro e w9 ⟨rfl, hf9⟩; have g9 := (hU.frm hf9 (fun h => h)).cell 5; simp only [List.getElem?_cons_zero, List.getElem?_cons_succ] at g9))
    go_ret
    refine ⟨?_, by first | exact hf3.trans hf9 | exact hf3⟩
    rw [← HR'.out]
    simp [] <;> omega
  | true =>
    cases hx : withinB ux ix n with
    | false =>
      have HWX := Lib.hid (fun w => hx ▸ withinC ux ix n w)
      go_wp2_with (first | (go_at_call_has 65 ix; refine (HWX.out _).mono ?_; rintro e w' ⟨rfl, rfl⟩) | (go_at_call_has 65 iy; refine (HWY.out _).mono ?_; rintro e w' ⟨rfl, rfl⟩) | (go_at_call_has 65 i_n; refine (HWN.out _).mono ?_; rintro e w' ⟨rfl, rfl⟩) | (go_at_call 66; refine (HBO.out _).mono ?_; rintro e w9 ⟨rfl, hf9⟩; have g9 := (hU.frm hf9 (fun h => h)).cell 5; simp only [List.getElem?_cons_zero, List.getElem?_cons_succ] at g9))
      go_ret
      refine ⟨?_, by first | exact hf3.trans hf9 | exact hf3⟩
      rw [← HR'.out]
      simp [hx] <;> omega
    | true =>
      have HWX := Lib.hid (fun w => hx ▸ withinC ux ix n w)
      cases hy : withinB uy iy n with
      | false =>
        have HWY := Lib.hid (fun w => hy ▸ withinC uy iy n w)
        go_wp2_with (first | (go_at_call_has 65 ix; refine (HWX.out _).mono ?_; rintro e w' ⟨rfl, rfl⟩) | (go_at_call_has 65 iy; refine (HWY.out _).mono ?_; rintro e w' ⟨rfl, rfl⟩) | (go_at_call_has 65 i_n; refine (HWN.out _).mono ?_; rintro e w' ⟨rfl, rfl⟩) | (go_at_call 66; refine (HBO.out _).mono ?_; rintro e w9 ⟨rfl, hf9⟩; have g9 := (hU.frm hf9 (fun h => h)).cell 5; simp only [List.getElem?_cons_zero, List.getElem?_cons_succ] at g9))
        go_ret
        refine ⟨?_, by first | exact hf3.trans hf9 | exact hf3⟩
        rw [← HR'.out]
        simp [hx, hy] <;> omega
      | true =>
        have HWY := Lib.hid (fun w => hy ▸ withinC uy iy n w)
        cases ug with
        | false =>
          cases hn2 : withinB false i_n gr with
          | false =>
            have HWN := Lib.hid (fun w => hn2 ▸ withinC false i_n gr w)
            go_wp2_with (first | (go_at_call_has 65 ix; refine (HWX.out _).mono ?_; rintro e w' ⟨rfl, rfl⟩) | (go_at_call_has 65 iy; refine (HWY.out _).mono ?_; rintro e w' ⟨rfl, rfl⟩) | (go_at_call_has 65 i_n; refine (HWN.out _).mono ?_; rintro e w' ⟨rfl, rfl⟩) | (go_at_call 66; refine (HBO.out _).mono ?_; rintro e w9 ⟨rfl, hf9⟩; have g9 := (hU.frm hf9 (fun h => h)).cell 5; simp only [List.getElem?_cons_zero, List.getElem?_cons_succ] at g9))
            go_ret
            refine ⟨?_, by first | exact hf3.trans hf9 | exact hf3⟩
            rw [← HR'.out]
            simp [hx, hy, hn2] <;> omega
          | true =>
            have HWN := Lib.hid (fun w => hn2 ▸ withinC false i_n gr w)
            cases hb2 : boundsB ⟨iop, ix, iy, i_n, imn, imx, is0, is1, is2, is3⟩ with
            | false =>
              have HBO := Lib.hid (fun w => hb2 ▸ boundsC ⟨iop, ix, iy, i_n, imn, imx, is0, is1, is2, is3⟩ w)
              go_wp2_with (first | (go_at_call_has 65 ix; refine (HWX.out _).mono ?_; rintro e w' ⟨rfl, rfl⟩) | (go_at_call_has 65 iy; refine (HWY.out _).mono ?_; rintro e w' ⟨rfl, rfl⟩) | (go_at_call_has 65 i_n; refine (HWN.out _).mono ?_; rintro e w' ⟨rfl, rfl⟩) | (go_at_call 66; refine (HBO.out _).mono ?_; rintro e w9 ⟨rfl, hf9⟩; have g9 := (hU.frm hf9 (fun h => h)).cell 5; simp only [List.getElem?_cons_zero, List.getElem?_cons_succ] at g9))
              go_ret
              refine ⟨?_, by first | exact hf3.trans hf9 | exact hf3⟩
              rw [← HR'.out]
              simp [hx, hy, hn2, hb2] <;> omega
            | true =>
              have HBO := Lib.hid (fun w => hb2 ▸ boundsC ⟨iop, ix, iy, i_n, imn, imx, is0, is1, is2, is3⟩ w)
              cases un with
              | false =>
                go_wp2_with (first | (go_at_call_has 65 ix; refine (HWX.out _).mono ?_; rintro e w' ⟨rfl, rfl⟩) | (go_at_call_has 65 iy; refine (HWY.out _).mono ?_; rintro e w' ⟨rfl, rfl⟩) | (go_at_call_has 65 i_n; refine (HWN.out _).mono ?_; rintro e w' ⟨rfl, rfl⟩) | (go_at_call 66; refine (HBO.out _).mono ?_; rintro e w9 ⟨rfl, hf9⟩; have g9 := (hU.frm hf9 (fun h => h)).cell 5; simp only [List.getElem?_cons_zero, List.getElem?_cons_succ] at g9))
                go_ret
                refine ⟨?_, by first | exact hf3.trans hf9 | exact hf3⟩
                rw [← HR'.out]
                simp [hx, hy, hn2, hb2] <;> omega
              | true =>
                go_wp2_with (first | (go_at_call_has 65 ix; refine (HWX.out _).mono ?_; rintro e w' ⟨rfl, rfl⟩) | (go_at_call_has 65 iy; refine (HWY.out _).mono ?_; rintro e w' ⟨rfl, rfl⟩) | (go_at_call_has 65 i_n; refine (HWN.out _).mono ?_; rintro e w' ⟨rfl, rfl⟩) | (go_at_call 66; refine (HBO.out _).mono ?_; rintro e w9 ⟨rfl, hf9⟩; have g9 := (hU.frm hf9 (fun h => h)).cell 5; simp only [List.getElem?_cons_zero, List.getElem?_cons_succ] at g9))
                go_ret
                refine ⟨?_, by first | exact hf3.trans hf9 | exact hf3⟩
                rw [← HR'.out]
                simp [hx, hy, hn2, hb2] <;> omega
        | true =>
          cases hn2 : withinB true i_n gr with
          | false =>
            have HWN := Lib.hid (fun w => hn2 ▸ withinC true i_n gr w)
            go_wp2_with (first | (go_at_call_has 65 ix; refine (HWX.out _).mono ?_; rintro e w' ⟨rfl, rfl⟩) | (go_at_call_has 65 iy; refine (HWY.out _).mono ?_; rintro e w' ⟨rfl, rfl⟩) | (go_at_call_has 65 i_n; refine (HWN.out _).mono ?_; rintro e w' ⟨rfl, rfl⟩) | (go_at_call 66; refine (HBO.out _).mono ?_; rintro e w9 ⟨rfl, hf9⟩; have g9 := (hU.frm hf9 (fun h => h)).cell 5; simp only [List.getElem?_cons_zero, List.getElem?_cons_succ] at g9))
            go_ret
            refine ⟨?_, by first | exact hf3.trans hf9 | exact hf3⟩
            rw [← HR'.out]
            simp [hx, hy, hn2] <;> omega
          | true =>
            have HWN := Lib.hid (fun w => hn2 ▸ withinC true i_n gr w)
            cases hb2 : boundsB ⟨iop, ix, iy, i_n, imn, imx, is0, is1, is2, is3⟩ with
            | false =>
              have HBO := Lib.hid (fun w => hb2 ▸ boundsC ⟨iop, ix, iy, i_n, imn, imx, is0, is1, is2, is3⟩ w)
              go_wp2_with (first | (go_at_call_has 65 ix; refine (HWX.out _).mono ?_; rintro e w' ⟨rfl, rfl⟩) | (go_at_call_has 65 iy; refine (HWY.out _).mono ?_; rintro e w' ⟨rfl, rfl⟩) | (go_at_call_has 65 i_n; refine (HWN.out _).mono ?_; rintro e w' ⟨rfl, rfl⟩) | (go_at_call 66; refine (HBO.out _).mono ?_; rintro e w9 ⟨rfl, hf9⟩; have g9 := (hU.frm hf9 (fun h => h)).cell 5; simp only [List.getElem?_cons_zero, List.getElem?_cons_succ] at g9))
              go_ret
              refine ⟨?_, by first | exact hf3.trans hf9 | exact hf3⟩
              rw [← HR'.out]
              simp [hx, hy, hn2, hb2] <;> omega
            | true =>
              have HBO := Lib.hid (fun w => hb2 ▸ boundsC ⟨iop, ix, iy, i_n, imn, imx, is0, is1, is2, is3⟩ w)
              cases un with
              | false =>
                go_wp2_with (first | (go_at_call_has 65 ix; refine (HWX.out _).mono ?_; rintro e w' ⟨rfl, rfl⟩) | (go_at_call_has 65 iy; refine (HWY.out _).mono ?_; rintro e w' ⟨rfl, rfl⟩) | (go_at_call_has 65 i_n; refine (HWN.out _).mono ?_; rintro e w' ⟨rfl, rfl⟩) | (go_at_call 66; refine (HBO.out _).mono ?_; rintro e w9 ⟨rfl, hf9⟩; have g9 := (hU.frm hf9 (fun h => h)).cell 5; simp only [List.getElem?_cons_zero, List.getElem?_cons_succ] at g9))
                go_ret
                refine ⟨?_, by first | exact hf3.trans hf9 | exact hf3⟩
                rw [← HR'.out]
                simp [hx, hy, hn2, hb2] <;> omega
              | true =>
                go_wp2_with (first | (go_at_call_has 65 ix; refine (HWX.out _).mono ?_; rintro e w' ⟨rfl, rfl⟩) | (go_at_call_has 65 iy; refine (HWY.out _).mono ?_; rintro e w' ⟨rfl, rfl⟩) | (go_at_call_has 65 i_n; refine (HWN.out _).mono ?_; rintro e w' ⟨rfl, rfl⟩) | (go_at_call 66; refine (HBO.out _).mono ?_; rintro e w9 ⟨rfl, hf9⟩; have g9 := (hU.frm hf9 (fun h => h)).cell 5; simp only [List.getElem?_cons_zero, List.getElem?_cons_succ] at g9))
                go_ret
                refine ⟨?_, by first | exact hf3.trans hf9 | exact hf3⟩
                rw [← HR'.out]
                simp [hx, hy, hn2, hb2] <;> omega
end Go.Proofs.Ytoadmpochaeohaa
end
