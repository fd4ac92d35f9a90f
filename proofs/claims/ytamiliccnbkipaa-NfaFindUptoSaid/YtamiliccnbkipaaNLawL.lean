/-
  NfaLongest, walked: it answers true.
-/
import Derived.Test.YtamiliccnbkipaaNKnown
import Derived.Test.YtamiliccnbkipaaNBound
import Derived.Test.YtamiliccnbkipaaRLong
import Derived.Test.YtamiliccnbkipaaRLent
import Derived.Test.YtamiliccnbkipaaRSmall
import Derived.Test.YtamiliccnbkipaaNLawE
set_option linter.unusedVariables false
set_option linter.unusedSimpArgs false
namespace Go.Proofs.Ytamiliccnbkipaa
open Go.RowKit

theorem rd_lent {w : World} {F : Nat → Prop} {B : Option Addr} {n cq : Nat} {ins : List Ins} (hs : Sl w F 50 10 (.slice B (n + 2) cq) (n + 2) (flatI (ins ++ [mk7, mk7]))) (hil : ins.length = n) : Rd w F 10 B n cq (flatI ins) := by
  have := hs.rd.upto (k := n) (by omega)
  have he : (flatI (ins ++ [mk7, mk7])).take (n * 10) = flatI ins := by
    have : flatI (ins ++ [mk7, mk7]) = flatI ins ++ flatI [mk7, mk7] := List.flatMap_append
    rw [this, List.take_append_of_le_length (by rw [flatI_len]; omega), List.take_of_length_le (by rw [flatI_len]; omega)]
  rwa [he] at this
theorem steps_ok {n : Nat} {m st : Int} (h : st ≤ n * (m + 2)) (hm : 0 ≤ m) : st ≤ 4 * n * (m + 1) := by
  have h1 : (n : Int) * (m + 2) ≤ n * (4 * (m + 1)) := Int.mul_le_mul_of_nonneg_left (by omega) (by omega)
  have h2 : (4 : Int) * n * (m + 1) = n * (4 * (m + 1)) := by rw [Int.mul_comm 4 (n : Int), Int.mul_assoc]
  omega
theorem small_ok {n : Nat} {m : Nat} (hn : n ≤ 1048576) (hm : m ≤ 1048576) : (n : Int) * (m + 2) ≤ 4611686018427387904 := by
  have h1 : (n : Int) * (m + 2) ≤ 1048576 * (m + 2) := Int.mul_le_mul_of_nonneg_right (by omega) (by omega)
  omega

def topB : Best → Int | none => -1 | some p => p.2
theorem topV_eq (ins : List Ins) (L : ByteArray) (j : Nat) : topV ins L j = topB (findS ins L.toList j false) := by
  unfold topV; cases findS ins L.toList j false <;> rfl

set_option maxHeartbeats 8000000 in
set_option maxRecDepth 100000 in
theorem lawL (A : Option Addr) (n cp : Nat) (gr co : Int) (fo : Bool) (ins : List Ins) (line : ByteArray) (at_ : Int) (W : World) (hrd : Rd W (fun _ => True) 10 A n cp (flatI ins)) (hok : ∀ i ∈ ins, i.ok) (hn : n ≤ 1048576) (hl : line.size ≤ 1048576) :
    Calls Try.prog 3 #[.agg #[.slice A n cp, .int .i64 gr, .int .i64 co, .bool fo], .string line, .int .i64 at_] W fun e W' => e = .returned (.bool true) ∧ Frm (fun _ => False) W W' := by
  have hil : ins.length = n := by have := hrd.len; rw [flatI_len] at this; omega
  have hf0 : Frm (fun _ => False) W (W.alloc (.cells #[.slice A n cp, .int .i64 gr, .int .i64 co, .bool fo] 24)) := (Frm.refl _ W).alloc _
  have hP := Blk.new W [.slice A n cp, .int .i64 gr, .int .i64 co, .bool fo] 24
  have hr0 := hrd.frm hf0 (fun _ _ h => h)
  have HIL := Lib.hid hil
  have HOK := Lib.hid hok
  clear hil hok
  go_enter Try.func3, Try.ntmps3
  go_upto_region 1 with fail
  generalize W.alloc (.cells #[.slice A n cp, .int .i64 gr, .int .i64 co, .bool fo] 24) = w1 at *
  generalize hbp : W.heap.size = bp at *
  clear hbp
  go_wp2_with fail
  refine (knownC w1).mono ?_
  rintro e w2 ⟨rfl, hf2⟩
  have hP2 := hP.frm hf2 (fun h => h)
  have hr2 := hr0.frm hf2 (fun _ _ h => h)
  have hfin2 := hf0.trans hf2
  have HLE := Lib.hid (lentC A n cp gr co fo ins (fun _ => True) w2 hr2 hn)
  obtain ⟨c0, c1, c2, c3, g0, g1, g2, g3, l0⟩ := blk4 hP2
  clear hf2 hf0 hr0 hP
  go_wp2_with fail
  refine HLE.out.mono ?_
  rintro e w3 ⟨B, cq, rfl, hs3, hf3⟩
  clear c0 c1 c2 c3 g0 g1 g2 g3 l0 HLE
  have hP3 := (hP2.frm hf3 (fun h => h)).alloc (.cells #[.slice B n cq, .int .i64 gr, .int .i64 co, .bool fo] 24)
  have hQ3 := Blk.new w3 [.slice B n cq, .int .i64 gr, .int .i64 co, .bool fo] 24
  have hs4 := hs3.alloc (.cells #[.slice B n cq, .int .i64 gr, .int .i64 co, .bool fo] 24)
  have hr4 := (hr2.frm hf3 (fun _ _ h => h)).alloc (.cells #[.slice B n cq, .int .i64 gr, .int .i64 co, .bool fo] 24)
  have hfin4 := (hfin2.trans hf3).alloc (.cells #[.slice B n cq, .int .i64 gr, .int .i64 co, .bool fo] 24)
  clear hs3 hf3 hP2 hr2 hfin2
  go_upto_region 3 with fail
  generalize w3.alloc (.cells #[.slice B n cq, .int .i64 gr, .int .i64 co, .bool fo] 24) = w4 at *
  generalize w3.heap.size = bq at *
  generalize (fun k => w2.heap.size ≤ k) = FQ at *
  obtain ⟨be, hbe⟩ : ∃ be, beginE ins gr co line at_ = be := ⟨_, rfl⟩
  obtain ⟨r, hr⟩ : ∃ r, findS ins line.toList at_.toNat false = r := ⟨_, rfl⟩
  obtain ⟨N, hN⟩ : ∃ N, findN ins line.toList at_.toNat false = N := ⟨_, rfl⟩
  have HL : Hid (∀ w, Rd w FQ 10 B n cq (flatI ins) → _) := Lib.hid (fun w hw => longC2 B n cq gr co fo ins FQ line at_ w hw (by omega))
  rw [hbe, hr, hN] at HL
  have HR := Lib.hid hr
  have HBE := Lib.hid hbe
  clear hr hbe hN
  obtain ⟨q0, q1, q2, q3, k0, k1, k2, k3, lq⟩ := blk4 hQ3
  go_wp2_with fail
  refine (HL.out _ (rd_lent hs4 HIL.out)).mono ?_
  rintro e w5 ⟨hf5, hc5⟩
  clear q0 q1 q2 q3 k0 k1 k2 k3 lq
  have hP5 := hP3.frm hf5 (fun h => h)
  have hQ5 := hQ3.frm hf5 (fun h => h)
  have hs5 := hs4.frm hf5 (fun _ _ h => h)
  have hr5 := hr4.frm hf5 (fun _ _ h => h)
  have hfin5 := hfin4.trans hf5
  clear hP3 hQ3 hs4 hr4 hfin4 hf5
  have HBIG := Lib.hid (small_ok hn hl)
  obtain ⟨x0, x1, x2, rfl, hcase⟩ : ∃ (x0 : Int) (x1 : Bool) (x2 : Int), e = .returned (.tuple #[.int .i64 x0, .bool x1, .int .i64 x2, .int .i64 be]) ∧ ((be ≠ 0 ∧ x0 = 0 ∧ x1 = false ∧ x2 = 0) ∨ (be = 0 ∧ x0 = bestT r ∧ x1 = r.isSome ∧ x2 = N ∧ StepsB n line at_.toNat x2)) := by
    rcases hc5 with ⟨h1, h2⟩ | ⟨h1, st, h2, h3, h4⟩
    · exact ⟨0, false, 0, h2, .inl ⟨h1, rfl, rfl, rfl⟩⟩
    · exact ⟨bestT r, r.isSome, st, by rw [h1]; exact h2, .inr ⟨h1, rfl, rfl, h4 HBIG.out, h3⟩⟩
  have HCA := Lib.hid hcase
  clear hc5 hcase
  obtain ⟨q0, q1, q2, q3, k0, k1, k2, k3, lq⟩ := blk4 hQ5
  go_wp2_with fail
  refine (HL.out _ (rd_lent hs5 HIL.out)).mono ?_
  rintro e w6 ⟨hf6, hc6⟩
  clear q0 q1 q2 q3 k0 k1 k2 k3 lq
  have hP6 := hP5.frm hf6 (fun h => h)
  have hQ6 := hQ5.frm hf6 (fun h => h)
  have hs6 := hs5.frm hf6 (fun _ _ h => h)
  have hr6 := hr5.frm hf6 (fun _ _ h => h)
  have hfin6 := hfin5.trans hf6
  clear hP5 hQ5 hs5 hr5 hfin5 hf6 HL
  obtain rfl : e = .returned (.tuple #[.int .i64 x0, .bool x1, .int .i64 x2, .int .i64 be]) := by
    rcases hc6 with ⟨h1, h2⟩ | ⟨h1, st, h2, h3, h4⟩
    · rcases HCA.out with ⟨_, rfl, rfl, rfl⟩ | ⟨h, _⟩
      · exact h2
      · exact absurd h h1
    · rcases HCA.out with ⟨h, _⟩ | ⟨_, rfl, rfl, e1, _⟩
      · exact absurd h1 h
      · have e2 := h4 HBIG.out
        rw [h2, h1, e1, e2]
  clear hc6
  have HBK := Lib.hid (backC A B n cp cq gr co fo ins (fun _ => True) FQ w6 hr6 hs6 hn)
  obtain ⟨q0, q1, q2, q3, k0, k1, k2, k3, lq⟩ := blk4 hQ6
  obtain ⟨c0, c1, c2, c3, g0, g1, g2, g3, l0⟩ := blk4 hP6
  go_wp2_with fail
  refine HBK.out.mono ?_
  rintro e w7 ⟨rfl, hf7⟩
  clear q0 q1 q2 q3 k0 k1 k2 k3 lq c0 c1 c2 c3 g0 g1 g2 g3 l0 HBK
  have hP7 := hP6.frm hf7 (fun h => h)
  have hr7 := hr6.frm hf7 (fun _ _ h => h)
  have hfin7 := hfin6.trans hf7
  clear hP6 hQ6 hs6 hr6 hfin6 hf7
  have HRF := Lib.hid (refusedC A n cp gr co fo ins (fun _ => True) line at_ w7 hr7)
  rw [HBE.out] at HRF
  obtain ⟨c0, c1, c2, c3, g0, g1, g2, g3, l0⟩ := blk4 hP7
  go_wp2_with fail
  refine HRF.out.mono ?_
  rintro e w8 ⟨rfl, hf8⟩
  clear c0 c1 c2 c3 g0 g1 g2 g3 l0 HRF
  have hP8 := hP7.frm hf8 (fun h => h)
  have hr8 := hr7.frm hf8 (fun _ _ h => h)
  have hfin8 := hfin7.trans hf8
  clear hP7 hr7 hfin7 hf8
  obtain ⟨c0, c1, c2, c3, g0, g1, g2, g3, l0⟩ := blk4 hP8
  by_cases hb0 : be = 0
  · subst hb0
    obtain ⟨hfi, a, rfl, ha⟩ := begin_fine HBE.out
    rcases HCA.out with ⟨h, _⟩ | ⟨_, rfl, rfl, h4, h5⟩
    · exact absurd rfl h
    have h6 := h5 HBIG.out
    rw [Int.toNat_natCast] at h6 HR
    have hst1 : ¬ (x2 < 0) := by omega
    have hst2 : ¬ (4 * (n : Int) * (((line.size : Int) - a) + 1) < x2) := by
      have := steps_ok (m := (line.size : Int) - a) (n := n) (st := x2) (by rw [show (line.size : Int) - a + 2 = (line.size : Int) + 2 - a by omega]; exact h6.2) (by omega)
      omega
    have htv : topV ins line a = topB r := by rw [topV_eq, HR.out]
    have hbd : ∀ f t, r = some (f, t) → 0 ≤ t := fun f t e => by
      have := find_bounds (l := ins) (line := line.toList) a false (by rw [toList_len]; exact ha) f t (by rw [HR.out, e])
      omega
    have HRL := Lib.hid (refLongC A n cp gr co fo ins (fun _ => True) line w8 hr8 hfi HOK.out hl)
    have HHI : Hid (((line.size : Int) - a) ≤ 1048576 ∧ 0 ≤ (line.size : Int) - a) := Lib.hid ⟨by omega, by omega⟩
    have hwm : IntKind.i64.wrap ((line.size : Int) - a) = (line.size : Int) - a := IntWalk.i64_in _ (by omega)
    have HTV := Lib.hid htv
    have HBD := Lib.hid hbd
    clear h4 h5 h6 HCA htv hbd hfi
    go_wp2_with fail
    refine HRL.out.mono ?_
    rintro e w9 ⟨bo, rfl, hT, hf9⟩
    have hP9 := hP8.frm hf9 (fun h => h)
    have hfin9 := hfin8.trans hf9
    have d1 := row_cell hT (k := a) (by rw [topL_len]; omega)
    rw [topL_rg _ _ _ ha, HTV.out] at d1
    have lbo := hT.lt
    have HNF := Lib.hid (nfaC A n cp gr co fo ((line.size : Int) - a) w9 hn HHI.out.2 HHI.out.1)
    clear c0 c1 c2 c3 g0 g1 g2 g3 l0 hP8 hr8 hfin8 hf9 hT HRL
    obtain ⟨c0, c1, c2, c3, g0, g1, g2, g3, l0⟩ := blk4 hP9
    rcases r with _ | ⟨f, t⟩
    · rw [show topB (none : Best) = -1 from rfl] at d1
      rw [show bestT (none : Best) = 0 from rfl]
      simp only [Option.isSome_none]
      go_wp2_with fail
      refine HNF.out.mono ?_
      rintro e w10 ⟨rfl, hf10⟩
      have hfin := hfin9.trans hf10
      go_wp2_with fail
      go_ret
      exact ⟨rfl, hfin⟩
    · rw [show topB (some (f, t) : Best) = t from rfl] at d1
      have ht0 := HBD.out f t rfl
      rw [show bestT (some (f, t) : Best) = t from rfl]
      simp only [Option.isSome_some]
      go_wp2_with fail
      refine HNF.out.mono ?_
      rintro e w10 ⟨rfl, hf10⟩
      have hfin := hfin9.trans hf10
      go_wp2_with fail
      go_ret
      exact ⟨by simp, hfin⟩
  · rcases HCA.out with ⟨_, rfl, rfl, rfl⟩ | ⟨h, _⟩
    · have t1 : (be != 0) = true := by simpa using hb0
      clear hb0
      go_wp2_with fail
      go_ret
      exact ⟨rfl, hfin8⟩
    · exact absurd h hb0
end Go.Proofs.Ytamiliccnbkipaa
