/-
  NfaFind, walked: it answers true.
-/
import Derived.Test.YtamiliccnbkipaaNLawL
set_option linter.unusedVariables false
set_option linter.unusedSimpArgs false
namespace Go.Proofs.Ytamiliccnbkipaa
open Go.RowKit

set_option maxHeartbeats 8000000 in
set_option maxRecDepth 100000 in
theorem lawD (A : Option Addr) (n cp : Nat) (gr co : Int) (fo : Bool) (ins : List Ins) (line : ByteArray) (at_ : Int) (W : World) (hrd : Rd W (fun _ => True) 10 A n cp (flatI ins)) (hok : ∀ i ∈ ins, i.ok) (hn : n ≤ 1048576) (hl : line.size ≤ 1048576) :
    Calls Try.prog 4 #[.agg #[.slice A n cp, .int .i64 gr, .int .i64 co, .bool fo], .string line, .int .i64 at_] W fun e W' => e = .returned (.bool true) ∧ Frm (fun _ => False) W W' := by
  have hil : ins.length = n := by have := hrd.len; rw [flatI_len] at this; omega
  have hf0 : Frm (fun _ => False) W (W.alloc (.cells #[.slice A n cp, .int .i64 gr, .int .i64 co, .bool fo] 24)) := (Frm.refl _ W).alloc _
  have hP := Blk.new W [.slice A n cp, .int .i64 gr, .int .i64 co, .bool fo] 24
  have hr0 := hrd.frm hf0 (fun _ _ h => h)
  have HIL := Lib.hid hil
  have HOK := Lib.hid hok
  clear hil hok
  go_enter Try.func4, Try.ntmps4
  go_upto_region 1 with fail
  generalize W.alloc (.cells #[.slice A n cp, .int .i64 gr, .int .i64 co, .bool fo] 24) = w1 at *
  generalize hbp : W.heap.size = bp at *
  clear hbp
  go_wp2_with fail
  refine (knownC w1).mono ?_
  rintro e w2 ⟨rfl, hf2⟩
  have hP2 := hP.frm hf2 (fun h => h)
  have hr2 := hr0.frm hf2 (fun _ _ h => h)
  have hfin2 := hf0.trans hf2
  have HLE := Lib.hid (lentC A n cp gr co fo ins (fun _ => True) w2 hr2 hn)
  obtain ⟨c0, c1, c2, c3, g0, g1, g2, g3, l0⟩ := blk4 hP2
  clear hf2 hf0 hr0 hP
  go_wp2_with fail
  refine HLE.out.mono ?_
  rintro e w3 ⟨B, cq, rfl, hs3, hf3⟩
  clear c0 c1 c2 c3 g0 g1 g2 g3 l0 HLE
  have hP3 := (hP2.frm hf3 (fun h => h)).alloc (.cells #[.slice B n cq, .int .i64 gr, .int .i64 co, .bool fo] 24)
  have hQ3 := Blk.new w3 [.slice B n cq, .int .i64 gr, .int .i64 co, .bool fo] 24
  have hs4 := hs3.alloc (.cells #[.slice B n cq, .int .i64 gr, .int .i64 co, .bool fo] 24)
  have hr4 := (hr2.frm hf3 (fun _ _ h => h)).alloc (.cells #[.slice B n cq, .int .i64 gr, .int .i64 co, .bool fo] 24)
  have hfin4 := (hfin2.trans hf3).alloc (.cells #[.slice B n cq, .int .i64 gr, .int .i64 co, .bool fo] 24)
  clear hs3 hf3 hP2 hr2 hfin2
  go_upto_region 3 with fail
  generalize w3.alloc (.cells #[.slice B n cq, .int .i64 gr, .int .i64 co, .bool fo] 24) = w4 at *
  generalize w3.heap.size = bq at *
  generalize (fun k => w2.heap.size ≤ k) = FQ at *
  obtain ⟨be, hbe⟩ : ∃ be, beginE ins gr co line at_ = be := ⟨_, rfl⟩
  obtain ⟨r, hr⟩ : ∃ r, findS ins line.toList at_.toNat true = r := ⟨_, rfl⟩
  have HL := Lib.hid (findC B n cq gr co fo ins FQ line at_ w4 (rd_lent hs4 HIL.out) (by omega))
  rw [hbe, hr] at HL
  have HR := Lib.hid hr
  have HBE := Lib.hid hbe
  clear hr hbe
  obtain ⟨q0, q1, q2, q3, k0, k1, k2, k3, lq⟩ := blk4 hQ3
  go_wp2_with fail
  refine HL.out.mono ?_
  rintro e w5 ⟨hf5, hc5⟩
  clear q0 q1 q2 q3 k0 k1 k2 k3 lq
  have HBIG := Lib.hid (small_ok hn hl)
  obtain ⟨x0, x1, x2, x3, rfl, hcase⟩ : ∃ (x0 x1 : Int) (x2 : Bool) (x3 : Int), e = .returned (.tuple #[.agg #[.int .i64 x0, .int .i64 x1], .bool x2, .int .i64 x3, .int .i64 be]) ∧ ((be ≠ 0 ∧ x0 = 0 ∧ x1 = 0 ∧ x2 = false ∧ x3 = 0) ∨ (be = 0 ∧ x0 = bestF r ∧ x1 = bestT r ∧ x2 = r.isSome ∧ StepsB n line at_.toNat x3)) := by
    rcases hc5 with ⟨h1, h2⟩ | ⟨h1, st, h2, h3⟩
    · exact ⟨0, 0, false, 0, h2, .inl ⟨h1, rfl, rfl, rfl, rfl⟩⟩
    · exact ⟨bestF r, bestT r, r.isSome, st, by rw [h1]; exact h2, .inr ⟨h1, rfl, rfl, rfl, h3⟩⟩
  have HCA := Lib.hid hcase
  clear hc5 hcase HL
  have hP5 := (hP3.frm hf5 (fun h => h)).alloc (.cells #[.int .i64 x0, .int .i64 x1] 37)
  have hQ5 := (hQ3.frm hf5 (fun h => h)).alloc (.cells #[.int .i64 x0, .int .i64 x1] 37)
  have hX5 := Blk.new w5 [.int .i64 x0, .int .i64 x1] 37
  have hs5 := (hs4.frm hf5 (fun _ _ h => h)).alloc (.cells #[.int .i64 x0, .int .i64 x1] 37)
  have hr5 := (hr4.frm hf5 (fun _ _ h => h)).alloc (.cells #[.int .i64 x0, .int .i64 x1] 37)
  have hfin5 := (hfin4.trans hf5).alloc (.cells #[.int .i64 x0, .int .i64 x1] 37)
  clear hP3 hQ3 hs4 hr4 hfin4 hf5
  go_upto_region 4 with fail
  generalize w5.alloc (.cells #[.int .i64 x0, .int .i64 x1] 37) = w6 at *
  generalize w5.heap.size = bx at *
  have HBK := Lib.hid (backC A B n cp cq gr co fo ins (fun _ => True) FQ w6 hr5 hs5 hn)
  obtain ⟨q0, q1, q2, q3, k0, k1, k2, k3, lq⟩ := blk4 hQ5
  obtain ⟨c0, c1, c2, c3, g0, g1, g2, g3, l0⟩ := blk4 hP5
  go_wp2_with fail
  refine HBK.out.mono ?_
  rintro e w7 ⟨rfl, hf7⟩
  clear q0 q1 q2 q3 k0 k1 k2 k3 lq c0 c1 c2 c3 g0 g1 g2 g3 l0 HBK
  have hP7 := hP5.frm hf7 (fun h => h)
  have hX7 := hX5.frm hf7 (fun h => h)
  have hr7 := hr5.frm hf7 (fun _ _ h => h)
  have hfin7 := hfin5.trans hf7
  clear hP5 hQ5 hs5 hr5 hfin5 hf7 hX5
  have HRF := Lib.hid (refusedC A n cp gr co fo ins (fun _ => True) line at_ w7 hr7)
  rw [HBE.out] at HRF
  obtain ⟨c0, c1, c2, c3, g0, g1, g2, g3, l0⟩ := blk4 hP7
  go_wp2_with fail
  refine HRF.out.mono ?_
  rintro e w8 ⟨rfl, hf8⟩
  clear c0 c1 c2 c3 g0 g1 g2 g3 l0 HRF
  have hP8 := hP7.frm hf8 (fun h => h)
  have hX8 := hX7.frm hf8 (fun h => h)
  have hr8 := hr7.frm hf8 (fun _ _ h => h)
  have hfin8 := hfin7.trans hf8
  clear hP7 hr7 hfin7 hf8 hX7
  by_cases hb0 : be = 0
  · subst hb0
    obtain ⟨hfi, a, rfl, ha⟩ := begin_fine HBE.out
    rcases HCA.out with ⟨h, _⟩ | ⟨_, rfl, rfl, rfl, h5⟩
    · exact absurd rfl h
    have h6 := h5 HBIG.out
    rw [Int.toNat_natCast] at h6 HR
    have hst1 : ¬ (x3 < 0) := by omega
    have hst0 : 0 ≤ x3 := by omega
    have hst2 : x3 ≤ 4 * (n : Int) * (((line.size : Int) - a) + 1) := steps_ok (m := (line.size : Int) - a) (n := n) (st := x3) (by rw [show (line.size : Int) - a + 2 = (line.size : Int) + 2 - a by omega]; exact h6.2) (by omega)
    have HRL := Lib.hid (refFindC A n cp gr co fo ins (fun _ => True) line a w8 hr8 hfi HOK.out hl ha)
    rw [HR.out] at HRL
    have HHI : Hid (((line.size : Int) - a) ≤ 1048576 ∧ 0 ≤ (line.size : Int) - a) := Lib.hid ⟨by omega, by omega⟩
    have hwm : IntKind.i64.wrap ((line.size : Int) - a) = (line.size : Int) - a := IntWalk.i64_in _ (by omega)
    clear h5 h6 HCA hfi
    obtain ⟨c0, c1, c2, c3, g0, g1, g2, g3, l0⟩ := blk4 hP8
    go_wp2_with fail
    refine HRL.out.mono ?_
    rintro e w9 ⟨rfl, hf9⟩
    clear c0 c1 c2 c3 g0 g1 g2 g3 l0
    have hP9 := (hP8.frm hf9 (fun h => h)).alloc (.cells #[.int .i64 (bestF r), .int .i64 (bestT r)] 37)
    have hX9 := (hX8.frm hf9 (fun h => h)).alloc (.cells #[.int .i64 (bestF r), .int .i64 (bestT r)] 37)
    have hY9 := Blk.new w9 [.int .i64 (bestF r), .int .i64 (bestT r)] 37
    have hfin9 := (hfin8.trans hf9).alloc (.cells #[.int .i64 (bestF r), .int .i64 (bestT r)] 37)
    clear hP8 hr8 hfin8 hf9 HRL hX8
    go_upto_region 11 with fail
    generalize w9.alloc (.cells #[.int .i64 (bestF r), .int .i64 (bestT r)] 37) = w10 at *
    generalize w9.heap.size = bY at *
    have HNF := Lib.hid (nfaC A n cp gr co fo ((line.size : Int) - a) w10 hn HHI.out.2 HHI.out.1)
    obtain ⟨c0, c1, c2, c3, g0, g1, g2, g3, l0⟩ := blk4 hP9
    obtain ⟨s0, s1, z0, z1, ls⟩ := blk2 hX9
    obtain ⟨y0, y1, v0, v1, ly⟩ := blk2 hY9
    go_wp2_with fail
    refine HNF.out.mono ?_
    rintro e w11 ⟨rfl, hf10⟩
    have hfin := hfin9.trans hf10
    go_wp2_with fail
    go_ret
    exact ⟨rfl, hfin⟩
  · rcases HCA.out with ⟨_, rfl, rfl, rfl, rfl⟩ | ⟨h, _⟩
    · have t1 : (be != 0) = true := by simpa using hb0
      clear hb0
      obtain ⟨s0, s1, z0, z1, ls⟩ := blk2 hX8
      go_wp2_with fail
      go_ret
      exact ⟨rfl, hfin8⟩
    · exact absurd h hb0
end Go.Proofs.Ytamiliccnbkipaa
