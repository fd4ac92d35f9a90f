/-
  Layer 20: refused, may and asked, walked.
-/
import Derived.Test.YtoadmpochaeohaaPp4
import Derived.Test.YtoadmpochaeohaaPa18
import Derived.Laws.StructEq
import Derived.Deep.RegionHeld3
section
set_option linter.unusedVariables false
set_option linter.unusedSimpArgs false
set_option maxRecDepth 100000
namespace Go.Proofs.Ytoadmpochaeohaa
open Go.RowKit

theorem fields50P : Try.prog.underlying 50 = some (.struct (Try.prog.fieldsOf 50)) := by kernel_rfl
theorem stood50P : Try.prog.stoodInHeld 50 = false := by kernel_rfl
/-- Two equal spans are equal. -/
theorem run_eqSpanP (x y : Int) (w : World) : (Op.equalIn 10000 50 (.agg #[.int .i64 x, .int .i64 y]) (.agg #[.int .i64 x, .int .i64 y])).run Try.prog w = .ok true w := by
  rw [show (10000 : Nat) = 9998 + 1 + 1 from rfl, run_equalIn_struct w (9998 + 1) 50 _ _ fields50P stood50P]
  go_simp
attribute [local go_sem high] run_eqSpanP
attribute [local go_sem] eqGuard50
theorem span_formP (q : Option (Nat × Nat)) : ∃ x y : Int, spanV q = .agg #[.int .i64 x, .int .i64 y] := by
  rcases q with _ | ⟨x, y⟩
  · exact ⟨0, 0, rfl⟩
  · exact ⟨x, y, rfl⟩
set_option maxHeartbeats 4000000 in
theorem findBad {b : Nat} {line : ByteArray} {w : World} (at_ : Int) (hat : at_ < 0 ∨ (line.size : Int) < at_) :
    Calls Try.prog 21 #[.pointer (some ⟨b, 0, none⟩), .string line, .int .i64 at_] w fun e w' => e = .returned (.tuple #[.agg #[.int .i64 0, .int .i64 0], .bool false, .int .i64 1]) ∧ Frm (fun _ => False) w w' := by
  have hS0 := Blk.new w [.int .i64 0, .int .i64 0] 50
  have hf0 : Frm (fun _ => False) w (w.alloc (.cells #[.int .i64 0, .int .i64 0] 50)) := (Frm.refl _ _).alloc _
  by_cases h1 : at_ < 0
  · have d1 : decide (at_ < 0) = true := decide_eq_true h1
    go_enter Try.func21, Try.ntmps21
    go_upto_region 1 with fail
    generalize w.alloc (.cells #[.int .i64 0, .int .i64 0] 50) = w1 at *
    obtain ⟨bS, hbS⟩ : ∃ bS, w.heap.size = bS := ⟨_, rfl⟩
    simp only [hbS] at hS0 ⊢
    have HBS := Lib.hid hbS
    clear hbS
    obtain ⟨s0, s1, s2, s3, ls⟩ := blk2 hS0
    go_wp2_with fail
    refine bodyPost_ret (results_three rfl (RV.cell rfl ((hS0.setSame 0 (.int .i64 0)).setSame 1 (.int .i64 0)) Try.underlying50 rfl (by kernel_rfl)) (RV.tmp rfl) (RV.tmp rfl)) rfl ?_
    exact ⟨rfl, (hf0.set bS 0 _ (fun h => by have := HBS.out; omega)).set bS 1 _ (fun h => by have := HBS.out; omega)⟩
  · have d1 : decide (at_ < 0) = false := decide_eq_false h1
    have d2 : decide ((line.size : Int) < at_) = true := decide_eq_true (by omega)
    go_enter Try.func21, Try.ntmps21
    go_upto_region 1 with fail
    generalize w.alloc (.cells #[.int .i64 0, .int .i64 0] 50) = w1 at *
    obtain ⟨bS, hbS⟩ : ∃ bS, w.heap.size = bS := ⟨_, rfl⟩
    simp only [hbS] at hS0 ⊢
    have HBS := Lib.hid hbS
    clear hbS
    obtain ⟨s0, s1, s2, s3, ls⟩ := blk2 hS0
    go_wp2_with fail
    refine bodyPost_ret (results_three rfl (RV.cell rfl ((hS0.setSame 0 (.int .i64 0)).setSame 1 (.int .i64 0)) Try.underlying50 rfl (by kernel_rfl)) (RV.tmp rfl) (RV.tmp rfl)) rfl ?_
    exact ⟨rfl, (hf0.set bS 0 _ (fun h => by have := HBS.out; omega)).set bS 1 _ (fun h => by have := HBS.out; omega)⟩
set_option maxHeartbeats 4000000 in
theorem refusedC20 {b : Nat} {line : ByteArray} {w : World} (at_ : Int) (fd : Bool) (hat : at_ < 0 ∨ (line.size : Int) < at_) :
    Calls Try.prog 16 #[.pointer (some ⟨b, 0, none⟩), .agg #[.string line, .int .i64 at_, .bool fd]] w fun e w' => e = .returned (.bool true) ∧ Frm (fun _ => False) w w' := by
  have hQ := Blk.new w [.string line, .int .i64 at_, .bool fd] 41
  have hf0 : Frm (fun _ => False) w (w.alloc (.cells #[.string line, .int .i64 at_, .bool fd] 41)) := (Frm.refl _ _).alloc _
  have HL := Lib.hid (fun w1 => longestBad (b := b) (line := line) (w := w1) at_ hat)
  have HF := Lib.hid (fun w1 => findBad (b := b) (line := line) (w := w1) at_ hat)
  clear hat
  go_enter Try.func16, Try.ntmps16
  go_upto_region 1 with fail
  generalize w.alloc (.cells #[.string line, .int .i64 at_, .bool fd] 41) = w1 at *
  generalize w.heap.size = bQ at *
  obtain ⟨q0, q1, q2, g0, g1, g2, lq⟩ := blk3 hQ
  go_wp2_with fail
  refine (HL.out w1).mono ?_
  rintro e w2 ⟨rfl, hww⟩
  subst hww
  go_wp2_with fail
  refine (HF.out w1).mono ?_
  rintro e w2 ⟨rfl, hf2⟩
  have hff := hf0.trans hf2
  clear q0 q1 q2 g0 g1 g2 lq hQ hf0 hf2 HL HF
  go_upto_region 3 with fail
  have hX := Blk.new w2 [.int .i64 0, .int .i64 0] 50
  have hf3 := hff.alloc (.cells #[.int .i64 0, .int .i64 0] 50)
  generalize w2.alloc (.cells #[.int .i64 0, .int .i64 0] 50) = w3 at *
  generalize w2.heap.size = bX at *
  obtain ⟨x0, x1, x2, x3, lx⟩ := blk2 hX
  clear hff
  have hgu := eqGuard50
  go_wp2_with fail
  go_ret
  exact ⟨rfl, hf3⟩
/-- How many steps a call does at most. -/
def mayN (ins : List Ins) (gr co n : Nat) (fd : Bool) : Nat := if fd then timesN (backN ins gr co n) (n + 1) else backN ins gr co n
theorem backN_le (ins : List Ins) (gr co n : Nat) : backN ins gr co n ≤ 4611686018427387904 := conN_le _ _ (grpN_le n _ _ (timesN_le _ _))
set_option maxHeartbeats 4000000 in
theorem mayC (A : Option Addr) (n cp gr co : Nat) (fo : Bool) (ins : List Ins) (line : ByteArray) (at_ : Int) (fd : Bool) (G : Nat → Prop) (w : World) (hrd : Rd w G 10 A n cp (flatI ins)) (hr : rightE ins gr co = 0) (hN : line.size ≤ 100000) :
    Calls Try.prog 19 #[.agg #[.slice A n cp, .int .i64 gr, .int .i64 co, .bool fo], .agg #[.string line, .int .i64 at_, .bool fd]] w fun e w' => e = .returned (.int .i64 (mayN ins gr co line.size fd)) ∧ Frm (fun _ => False) w w' := by
  obtain ⟨hP, hQ, hf0⟩ := twoT w [.slice A n cp, .int .i64 gr, .int .i64 co, .bool fo] [.string line, .int .i64 at_, .bool fd] 24 41
  have hrd1 := hrd.low.frm hf0 (fun _ _ h => h)
  go_enter Try.func19, Try.ntmps19
  go_upto_region 1 with fail
  generalize (w.alloc (.cells #[.slice A n cp, .int .i64 gr, .int .i64 co, .bool fo] 24)).alloc (.cells #[.string line, .int .i64 at_, .bool fd] 41) = w1 at *
  generalize w.heap.size = bP at *
  generalize bP + 1 = bQ at *
  have HBC := Lib.hid (backC A n cp gr co fo ins _ line.size w1 hrd1 hr (by omega))
  obtain ⟨x0, x1, x2, x3, y0, y1, y2, y3, lx⟩ := blk4 hP
  obtain ⟨q0, q1, q2, g0, g1, g2, lq⟩ := blk3 hQ
  obtain ⟨bN, hbN⟩ : ∃ bN, backN ins gr co line.size = bN := ⟨_, rfl⟩
  have hbl : bN ≤ 4611686018427387904 := by rw [← hbN]; exact backN_le _ _ _ _
  have HM : Hid (mayN ins gr co line.size fd = if fd then timesN bN (line.size + 1) else bN) := Lib.hid (by rw [← hbN]; rfl)
  rw [hbN] at HBC
  clear hbN hrd hrd1 hr hP
  go_wp2_with fail
  refine HBC.out.mono ?_
  rintro e w2 ⟨rfl, hf2⟩
  have hQ2 := hQ.frm hf2 (fun h => h)
  have hff := hf0.trans hf2
  clear q0 q1 q2 g0 g1 g2 lq hQ hf0 hf2 HBC x0 x1 x2 x3 y0 y1 y2 y3 lx
  obtain ⟨q0, q1, q2, g0, g1, g2, lq⟩ := blk3 hQ2
  cases fd with
  | false =>
    go_wp2_with fail
    go_ret
    exact ⟨by rw [HM.out]; rfl, hff⟩
  | true =>
    obtain ⟨n1, hn1⟩ : ∃ n1, line.size + 1 = n1 := ⟨_, rfl⟩
    have hw1 : IntKind.i64.wrap ((line.size : Int) + 1) = (n1 : Int) := by rw [IntWalk.i64_in _ (by omega)]; omega
    have HT := Lib.hid (timesC bN n1 w2 hbl (by omega))
    rw [hn1] at HM
    clear hn1
    go_wp2_with fail
    refine HT.out.mono ?_
    rintro e w3 ⟨rfl, hww⟩
    subst hww
    go_wp2_with fail
    go_ret
    exact ⟨by rw [HM.out]; rfl, hff⟩
end Go.Proofs.Ytoadmpochaeohaa
end

section
set_option linter.unusedVariables false
set_option linter.unusedSimpArgs false
set_option maxRecDepth 100000
namespace Go.Proofs.Ytoadmpochaeohaa
open Go.RowKit

attribute [local go_sem high] run_eqSpanP
attribute [local go_sem] eqGuard50
/-- From, where there are few. -/
theorem fromY (bX bR : Nat) (A : Option Addr) (n cp gr co : Nat) (fo : Bool) (ins : List Ins) (line : ByteArray) (at_ : Nat) (o : Option Nat) (E : Nat → Prop) (sv mv : Value) (w : World) (hP : PlM w E bX A n cp gr co fo ins line bR sv mv) (hr : rightE ins gr co = 0) (hok : ∀ i ∈ ins, i.ok) (hat : at_ ≤ line.size) (hN : line.size ≤ 100000) (hE : ¬ E bX) (hXR : bX ≠ bR) (hA : Ans ins gr co fo line.toList at_ o) :
    Calls Try.prog 36 #[.pointer (some ⟨bX, 0, none⟩), .int .i64 at_, .int .i64 4000] w fun e w' => ∃ (bO : Nat) (outs : List Bool), e = .returned (.tuple #[.slice (some ⟨bO, 0, none⟩) (line.size + 1) (line.size + 1), .bool true]) ∧ w.heap.size ≤ bO ∧ Blk w' bO (outs.map BV) 4 ∧ outs.length = line.size + 1 ∧ LastIs outs o ∧ Frm (fun q => q = bX) w w' := by
  refine (fromX bX bR A n cp gr co fo ins line at_ 4000 E sv mv w hP hr hok hat hN (by omega) hE hXR).mono ?_
  rintro e w' ⟨hres, hf⟩
  rcases hres with ⟨v, rfl, cs, c1, c2, c3⟩ | ⟨bO, cs, outs, rfl, hbO, hBO, hol, hcl, hall, _⟩
  · exact (few_not hA.few c1 c2 c3).elim
  · exact ⟨bO, outs, rfl, hbO, hBO, hol, hA.last cs outs hall, hf⟩
set_option maxHeartbeats 8000000 in
theorem askedL (A : Option Addr) (n cp gr co : Nat) (fo : Bool) (ins : List Ins) (line : ByteArray) (at0 : Nat) (o : Option Nat) (G D : Nat → Prop) (b st kp : Nat) (s : Stt) (m : Mc) (r : Rn) (w : World) (hrd : Rd w G 10 A n cp (flatI ins)) (hG : ∀ q, G q → q ≠ b) (hr : rightE ins gr co = 0) (hok : ∀ i ∈ ins, i.ok)
    (hW : MW m) (hi : 0 < m.ins.length) (hI : Idle w D b s m st kp) (hat : at0 ≤ line.size) (hN : line.size ≤ 100000) (hrun : ranS m line.toList 8001 at0 st kp = some r) (hro : r.best = o) (hA : Ans ins gr co fo line.toList at0 o) (hst : st ≤ 100000000) (hkp : kp ≤ 100000000) :
    Calls Try.prog 18 #[.pointer (some ⟨b, 0, none⟩), .agg #[.slice A n cp, .int .i64 gr, .int .i64 co, .bool fo], .agg #[.string line, .int .i64 at0, .bool false]] w fun e w' => e = .returned (.bool true) ∧ Idle w' D b s m r.steps r.kept ∧ Frm (fun q => q = b) w w' := by
  have HR := Lib.hid (⟨hr, hok⟩ : _ ∧ _)
  have HA := Lib.hid hA
  obtain ⟨hP, hQ, hf0⟩ := twoT w [.slice A n cp, .int .i64 gr, .int .i64 co, .bool fo] [.string line, .int .i64 at0, .bool false] 24 41
  have hrd1 := hrd.low.frm hf0 (fun _ _ h => h)
  have hlb : b < w.heap.size := by obtain ⟨_, _, _, h⟩ := hI.obj; exact h.lt
  have HDW : Hid (∀ wx, Idle wx (fun k => D k ∧ k < w.heap.size) b s m r.steps r.kept → Frm (fun k => k = b) w wx → Idle wx D b s m r.steps r.kept) := Lib.hid fun wx h hfx => ⟨h.obj, hI.sta.frm hfx (fun k hk e => hI.no (e ▸ hk)), hI.no⟩
  have hI1 := hI.low.frm hf0 (fun h => h) (fun _ _ h => h)
  have HG := Lib.hid hG
  clear hr hok hrd hA hI hG
  go_enter Try.func18, Try.ntmps18
  go_upto_region 1 with fail
  generalize (w.alloc (.cells #[.slice A n cp, .int .i64 gr, .int .i64 co, .bool fo] 24)).alloc (.cells #[.string line, .int .i64 at0, .bool false] 41) = w1 at *
  obtain ⟨bP, hbP⟩ : ∃ b, w.heap.size = b := ⟨_, rfl⟩
  obtain ⟨bQ, hbQ⟩ : ∃ b, w.heap.size + 1 = b := ⟨_, rfl⟩
  simp only [hbQ] at hQ ⊢
  simp only [hbP] at hP hrd1 hlb HDW hI1 ⊢
  have HBP := Lib.hid (⟨hbP, hbQ⟩ : _ ∧ _)
  have hbq : bQ = bP + 1 := by omega
  clear hbP hbQ
  have HLO := Lib.hid (longestB (line := line) at0 8001 r hW hI1 hat (by omega) hi hrun (by omega) (by omega) (by omega))
  rw [hro] at HLO
  obtain ⟨q0, q1, q2, g0, g1, g2, lq⟩ := blk3 hQ
  clear hI1 hrun hro
  have hnQ : bQ ≠ b := by omega
  have hnP : bP ≠ b := by omega
  clear hbq
  go_wp2_with fail
  refine HLO.out.mono ?_
  rintro e w2 ⟨rfl, hI2, hf2⟩
  have hP2 := hP.frm hf2 hnP
  have hQ2 := hQ.frm hf2 hnQ
  have hrd2 := hrd1.frm hf2 (fun q hq e => HG.out q hq.1 e)
  have hff2 : Frm (fun q => q = b) w w2 := (hf0.mono (fun _ h _ => h.elim)).trans hf2
  have hz2 := hff2.size
  clear q0 q1 q2 g0 g1 g2 lq hP hQ hrd1 hf0 hf2 HLO
  obtain ⟨x0, x1, x2, x3, y0, y1, y2, y3, lx⟩ := blk4 hP2
  obtain ⟨q0, q1, q2, g0, g1, g2, lq⟩ := blk3 hQ2
  have HP2 := Lib.hid hP2
  have HQ2 := Lib.hid hQ2
  have HNP := Lib.hid (newPC A n cp gr co fo ins line _ w2.drew (hrd2.frm (S := fun _ => False) ((Frm.refl _ _).drew) (fun _ _ h => h)) HR.out.1)
  go_upto_region 6 with fail
  go_region_held3 (fun w' => w'.cell? ⟨bP, 0, none⟩ = some (.slice A n cp) ∧ w'.cell? ⟨bP, 1, none⟩ = some (.int .i64 gr) ∧ w'.cell? ⟨bP, 2, none⟩ = some (.int .i64 co) ∧ w'.cell? ⟨bP, 3, none⟩ = some (.bool fo) ∧ w'.cell? ⟨bQ, 0, none⟩ = some (.string line) ∧ w'.cell? ⟨bQ, 1, none⟩ = some (.int .i64 at0))
    (first | exact S4 | exact S3 | exact ⟨x0, x1, x2, x3, q0, q1⟩)
    (first
      | (go_at_call 35; refine HNP.out.mono ?_; rintro e w3 ⟨bX, bR, rfl, hPl, hbX, hbR, hf3⟩; have hfd3 := ((Frm.refl (fun _ => False) w2).drew).trans hf3; have hP3 := HP2.out.frm hfd3 (fun h => h); have hQ3 := HQ2.out.frm hfd3 (fun h => h); have S3 := (⟨(blk4 hP3).1, (blk4 hP3).2.1, (blk4 hP3).2.2.1, (blk4 hP3).2.2.2.1, (blk3 hQ3).1, (blk3 hQ3).2.1⟩ : _ ∧ _ ∧ _ ∧ _ ∧ _ ∧ _); have hXR := hPl.obj.ne hPl.refs (by decide))
      | (go_at_call 36; refine (fromY bX bR A n cp gr co fo ins line at0 o _ _ _ w3 hPl HR.out.1 HR.out.2 hat hN (fun h => by have h2 := h.2; have h3 : w2.heap.size ≤ bX := hbX; omega) hXR HA.out).mono ?_; rintro e w4 ⟨bO, outs, rfl, hbO, hBO, hol, hla, hf4⟩; have hP4 := hP3.frm hf4 (fun h => by have h3 : w2.heap.size ≤ bX := hbX; have h4 : bP = bX := h; have := HP2.out.lt; omega); have hQ4 := hQ3.frm hf4 (fun h => by have h3 : w2.heap.size ≤ bX := hbX; have h4 : bQ = bX := h; have := HQ2.out.lt; omega); have S4 := (⟨(blk4 hP4).1, (blk4 hP4).2.1, (blk4 hP4).2.2.1, (blk4 hP4).2.2.2.1, (blk3 hQ4).1, (blk3 hQ4).2.1⟩ : _ ∧ _ ∧ _ ∧ _ ∧ _ ∧ _)))
  have hz3 : w2.drew.heap.size = w2.heap.size := rfl
  have hXb : w2.heap.size ≤ bX := hbX
  have hlb2 : b < w2.heap.size := by omega
  have hf24 : Frm (fun _ => False) w2 w4 := hfd3.then hf4 (fun q hq hl => by have h2 : q = bX := hq; omega)
  have hI4 := hI2.frm hf24 (fun h => h) (fun _ _ h => h)
  have hff4 := hff2.trans (hf24.mono (fun _ h _ => h.elim))
  have HLA := Lib.hid (lastC bO (line.size + 1) outs o w4 hBO hol (by omega) hla)
  obtain ⟨N1, hN1⟩ : ∃ N1, line.size + 1 = N1 := ⟨_, rfl⟩
  have hcast : ((line.size : Int) + 1) = (N1 : Int) := by omega
  rw [hN1] at HLA
  simp only [hN1]
  have HN1 := Lib.hid hN1
  have HI4 := Lib.hid (HDW.out w4 (hI4) hff4)
  have HFF4 := Lib.hid hff4
  clear hN1 hI4 hff4 hf24 hBO hol hla hI2 hff2 hfd3 hf4 hPl HNP HP2 HQ2 hP3 hQ3 hP4 hQ4 S3 S4 x0 x1 x2 x3 y0 y1 y2 y3 lx q0 q1 q2 g0 g1 g2 lq hP2 hQ2 hrd2 hz2 hz3 hXb hlb2 hbX hbR hXR hbO hlb
  go_wp2_with fail
  refine HLA.out.mono ?_
  rintro e w5 ⟨rfl, hww⟩
  subst hww
  rcases o with _ | e1
  · simp only [lastZ, Option.getD_none, Option.isSome_none]
    have hmax : ∀ (w : World) (ty : TypeId), (Builtin.max_ #[3, 3] ty #[.int .i64 (-1), .int .i64 0]).run Try.prog w = .ok (.int .i64 0) w := fun w ty => by
      simp [Builtin.max_, Builtin.max2]
    go_wp2_with fail
    go_ret
    exact ⟨rfl, HI4.out, HFF4.out⟩
  · simp only [lastZ, Option.getD_some, Option.isSome_some]
    have hmax : ∀ (w : World) (ty : TypeId), (Builtin.max_ #[3, 3] ty #[.int .i64 e1, .int .i64 0]).run Try.prog w = .ok (.int .i64 e1) w := fun w ty => by
      have : ¬ ((e1 : Int) < 0) := by omega
      simp [Builtin.max_, Builtin.max2, this]
    have d1 : decide ((0 : Int) ≤ (e1 : Int)) = true := decide_eq_true (by omega)
    go_wp2_with fail
    go_ret
    exact ⟨rfl, HI4.out, HFF4.out⟩
set_option maxHeartbeats 8000000 in
theorem askedF (A : Option Addr) (n cp gr co : Nat) (fo : Bool) (ins : List Ins) (line : ByteArray) (at0 : Nat) (o : Nat → Option Nat) (G D : Nat → Prop) (b st kp st' kp' : Nat) (s : Stt) (m : Mc) (w : World) (hrd : Rd w G 10 A n cp (flatI ins)) (hG : ∀ q, G q → q ≠ b) (hr : rightE ins gr co = 0) (hok : ∀ i ∈ ins, i.ok)
    (hW : MW m) (hi : 0 < m.ins.length) (hI : Idle w D b s m st kp) (hat : at0 ≤ line.size) (hN : line.size ≤ 100000) (hrun : findR m line.toList 8001 (line.size + 1 - at0) at0 st kp = some (firstO o (line.size + 1 - at0) at0, st', kp')) (hA : ∀ a, at0 ≤ a → a ≤ line.size → Ans ins gr co fo line.toList a (o a)) (hst : st + (line.size + 1) * 100000000 ≤ 2305843009213693952) (hkp : kp ≤ 100000000) :
    Calls Try.prog 18 #[.pointer (some ⟨b, 0, none⟩), .agg #[.slice A n cp, .int .i64 gr, .int .i64 co, .bool fo], .agg #[.string line, .int .i64 at0, .bool true]] w fun e w' => e = .returned (.bool true) ∧ Idle w' D b s m st' kp' ∧ Frm (fun q => q = b) w w' := by
  have HR := Lib.hid (⟨hr, hok⟩ : _ ∧ _)
  have HA := Lib.hid hA
  obtain ⟨hP, hQ, hf0⟩ := twoT w [.slice A n cp, .int .i64 gr, .int .i64 co, .bool fo] [.string line, .int .i64 at0, .bool true] 24 41
  have hrd1 := hrd.low.frm hf0 (fun _ _ h => h)
  have hlb : b < w.heap.size := by obtain ⟨_, _, _, h⟩ := hI.obj; exact h.lt
  have HDW : Hid (∀ wx, Idle wx (fun k => D k ∧ k < w.heap.size) b s m st' kp' → Frm (fun k => k = b) w wx → Idle wx D b s m st' kp') := Lib.hid fun wx h hfx => ⟨h.obj, hI.sta.frm hfx (fun k hk e => hI.no (e ▸ hk)), hI.no⟩
  have hI1 := hI.low.frm hf0 (fun h => h) (fun _ _ h => h)
  have HG := Lib.hid hG
  clear hr hok hrd hA hI hG
  go_enter Try.func18, Try.ntmps18
  go_upto_region 1 with fail
  generalize (w.alloc (.cells #[.slice A n cp, .int .i64 gr, .int .i64 co, .bool fo] 24)).alloc (.cells #[.string line, .int .i64 at0, .bool true] 41) = w1 at *
  obtain ⟨bP, hbP⟩ : ∃ b, w.heap.size = b := ⟨_, rfl⟩
  obtain ⟨bQ, hbQ⟩ : ∃ b, w.heap.size + 1 = b := ⟨_, rfl⟩
  simp only [hbQ] at hQ ⊢
  simp only [hbP] at hP hrd1 hlb HDW hI1 ⊢
  have hbq : bQ = bP + 1 := by omega
  clear hbP hbQ
  have HFO := Lib.hid (findB (line := line) at0 8001 _ hW hI1 hat (by omega) hi hrun (by omega) hst (by omega))
  have HPC : Hid (∀ wx, Rd wx (fun q => G q ∧ q < bP) 10 A n cp (flatI ins) → Calls Try.prog 38 #[.agg #[.slice A n cp, .int .i64 gr, .int .i64 co, .bool fo], .string line, .int .i64 at0, .int .i64 4000] wx fun e w' => e = .returned (.tuple #[spanV (firstO o (line.size + 1 - at0) at0), .bool (firstO o (line.size + 1 - at0) at0).isSome, .bool true]) ∧ Frm (fun _ => False) wx w') := Lib.hid fun wx hx => partC A n cp gr co fo ins line at0 o _ wx hx HR.out.1 HR.out.2 (by omega) hN HA.out
  generalize firstO o (line.size + 1 - at0) at0 = q at *
  obtain ⟨sx, sy, hsp⟩ := span_formP q
  simp only [hsp] at HFO HPC
  generalize q.isSome = qb at *
  clear hsp
  obtain ⟨q0, q1, q2, g0, g1, g2, lq⟩ := blk3 hQ
  clear hI1 hrun
  have hnQ : bQ ≠ b := by omega
  have hnP : bP ≠ b := by omega
  clear hbq
  go_wp2_with fail
  refine HFO.out.mono ?_
  rintro e w2 ⟨rfl, hI2, hf2⟩
  have hP2 := hP.frm hf2 hnP
  have hQ2 := hQ.frm hf2 hnQ
  have hrd2 := hrd1.frm hf2 (fun q hq e => HG.out q hq.1 e)
  have hff2 : Frm (fun q => q = b) w w2 := (hf0.mono (fun _ h _ => h.elim)).trans hf2
  have hz2 := hff2.size
  clear q0 q1 q2 g0 g1 g2 lq hP hQ hrd1 hf0 hf2 HFO
  go_upto_region 3 with fail
  have hX3 := Blk.new w2 [.int .i64 sx, .int .i64 sy] 50
  have hf3 : Frm (fun _ => False) w2 (w2.alloc (.cells #[.int .i64 sx, .int .i64 sy] 50)) := (Frm.refl _ _).alloc _
  have hP3 := hP2.frm hf3 (fun h => h)
  have hQ3 := hQ2.frm hf3 (fun h => h)
  have hrd3 := hrd2.frm hf3 (fun _ _ h => h)
  have hI3 := hI2.frm hf3 (fun h => h) (fun _ _ h => h)
  have hff3 := hff2.trans (hf3.mono (fun _ h _ => h.elim))
  generalize w2.alloc (.cells #[.int .i64 sx, .int .i64 sy] 50) = w3 at *
  obtain ⟨bX, hbX⟩ : ∃ b, w2.heap.size = b := ⟨_, rfl⟩
  simp only [hbX] at hX3 ⊢
  clear hbX hP2 hQ2 hrd2 hI2 hf3 hff2 hz2
  obtain ⟨x0, x1, x2, x3, y0, y1, y2, y3, lx⟩ := blk4 hP3
  obtain ⟨q0, q1, q2, g0, g1, g2, lq⟩ := blk3 hQ3
  have HPC3 := Lib.hid (HPC.out w3 hrd3)
  clear HPC hrd3 hP3 hQ3
  go_wp2_with fail
  refine HPC3.out.mono ?_
  rintro e w4 ⟨rfl, hf4⟩
  have hX4 := hX3.frm hf4 (fun h => h)
  have hI4 := hI3.frm hf4 (fun h => h) (fun _ _ h => h)
  have hff4 := hff3.trans (hf4.mono (fun _ h _ => h.elim))
  clear x0 x1 x2 x3 y0 y1 y2 y3 lx q0 q1 q2 g0 g1 g2 lq hX3 hI3 hff3 hf4 HPC3
  go_upto_region 4 with fail
  have hY5 := Blk.new w4 [.int .i64 sx, .int .i64 sy] 50
  have hf5 : Frm (fun _ => False) w4 (w4.alloc (.cells #[.int .i64 sx, .int .i64 sy] 50)) := (Frm.refl _ _).alloc _
  have hX5 := hX4.frm hf5 (fun h => h)
  have hff5 := hff4.trans (hf5.mono (fun _ h _ => h.elim))
  have HI5 := Lib.hid (HDW.out _ (hI4.frm hf5 (fun h => h) (fun _ _ h => h)) hff5)
  have HFF5 := Lib.hid hff5
  generalize w4.alloc (.cells #[.int .i64 sx, .int .i64 sy] 50) = w5 at *
  generalize w4.heap.size = bY at *
  clear hX4 hI4 hff4 hf5 hff5
  obtain ⟨x0, x1, x2, x3, lx⟩ := blk2 hX5
  obtain ⟨y0, y1, y2, y3, ly⟩ := blk2 hY5
  have hgu := eqGuard50
  go_wp2_with fail
  go_ret
  exact ⟨rfl, HI5.out, HFF5.out⟩
end Go.Proofs.Ytoadmpochaeohaa
end

section
set_option linter.unusedVariables false
set_option linter.unusedSimpArgs false
set_option maxRecDepth 100000
namespace Go.Proofs.Ytoadmpochaeohaa
open Go.RowKit

/-- 16 times as many, or the top. -/
def Mul (K b : Nat) : Prop := 16 * K ≤ b ∨ b = 4611686018427387904
theorem mul_step {K b f f' : Nat} (h : Mul K b) (hf : f' ≤ f) (h1 : 1 ≤ f) : Mul (K * f') (timesN b f) := by
  unfold Mul at h ⊢
  rw [timesN_min]
  rcases h with h | h
  · by_cases hb : b * f ≤ 4611686018427387904
    · left
      rw [Nat.min_eq_left hb]
      calc 16 * (K * f') = 16 * K * f' := by rw [Nat.mul_assoc]
        _ ≤ b * f := Nat.mul_le_mul h hf
    · right; omega
  · right
    subst h
    have : 4611686018427387904 * 1 ≤ 4611686018427387904 * f := Nat.mul_le_mul_left _ h1
    omega
theorem mul_grp {n : Nat} : ∀ (rs : List Bool) (K b : Nat), Mul K b → Mul (K * ((n + 2) * (n + 2) * (n + 2)) ^ (rs.filter id).length) (grpN n rs b)
  | [], K, b, h => by simpa [grpN] using h
  | r :: rs, K, b, h => by
    cases r with
    | false =>
      have := mul_grp (n := n) rs K b h
      simpa [grpN] using this
    | true =>
      have h1 := mul_step (mul_step (mul_step h (Nat.le_refl (n + 2)) (by omega)) (Nat.le_refl (n + 2)) (by omega)) (Nat.le_refl (n + 2)) (by omega)
      have := mul_grp (n := n) rs _ _ h1
      rw [List.filter_cons_of_pos (by rfl), List.length_cons, Nat.pow_succ]
      have e : K * (((n + 2) * (n + 2) * (n + 2)) ^ (rs.filter id).length * ((n + 2) * (n + 2) * (n + 2))) = K * (n + 2) * (n + 2) * (n + 2) * ((n + 2) * (n + 2) * (n + 2)) ^ (rs.filter id).length := by
        rw [Nat.mul_comm (((n + 2) * (n + 2) * (n + 2)) ^ (rs.filter id).length), ← Nat.mul_assoc K, ← Nat.mul_assoc K, ← Nat.mul_assoc K]
      rw [e]
      exact this
theorem mul_con : ∀ (bt : List (Int × Bool)) (rs : List Nat) (K b : Nat), bt.length = rs.length → (∀ (k : Nat) (p : Int × Bool) (r : Nat), bt[k]? = some p → rs[k]? = some r → r ≤ (if p.2 then 2 * (p.1.toNat + 2) else 1)) → Mul K b → Mul (K * radP rs) (conN bt b)
  | [], [], K, b, _, _, h => by simpa [conN, radP] using h
  | [], _ :: _, K, b, h, _, _ => by simp at h
  | _ :: _, [], K, b, h, _, _ => by simp at h
  | p :: bt, r :: rs, K, b, hl, hp, h => by
    have h0 := hp 0 p r rfl rfl
    have hr : ∀ (k : Nat) (p : Int × Bool) (r : Nat), bt[k]? = some p → rs[k]? = some r → r ≤ (if p.2 then 2 * (p.1.toNat + 2) else 1) := fun k p r h1 h2 => hp (k + 1) p r h1 h2
    obtain ⟨v, t⟩ := p
    rw [radP, ← Nat.mul_assoc]
    cases t with
    | false =>
      have hr1 : r ≤ 1 := h0
      have h2 : Mul (K * r) b := by
        rcases h with h | h
        · left
          have : K * r ≤ K * 1 := Nat.mul_le_mul_left _ hr1
          omega
        · exact .inr h
      have := mul_con bt rs (K * r) b (by simpa using hl) hr h2
      simpa [conN] using this
    | true =>
      have h2 := mul_step h (show r ≤ 2 * (v.toNat + 2) from h0) (by omega)
      have := mul_con bt rs (K * r) _ (by simpa using hl) hr h2
      simpa [conN] using this
theorem radP_app : ∀ a b : List Nat, radP (a ++ b) = radP a * radP b
  | [], b => by simp [radP]
  | x :: a, b => by rw [List.cons_append, radP, radP, radP_app a b, Nat.mul_assoc]
theorem radP_three {α : Type} (x : Nat) : ∀ l : List α, radP (l.flatMap fun _ => [x, x, x]) = (x * x * x) ^ l.length
  | [] => rfl
  | a :: l => by
    rw [List.flatMap_cons, radP_app, radP_three x l, List.length_cons, Nat.pow_succ, Nat.mul_comm]
    congr 1
    simp [radP, Nat.mul_assoc]
theorem count_refs : ∀ (r : List Bool) (s : List Int), r.length = s.length → (∀ g, g < r.length → (r.getD g false = true ↔ 0 ≤ s.getD g (-1))) → (r.filter id).length = (s.filter (0 ≤ ·)).length
  | [], [], _, _ => rfl
  | [], _ :: _, h, _ => by simp at h
  | _ :: _, [], h, _ => by simp at h
  | x :: r, y :: s, hl, h => by
    have h0 := h 0 (by simp)
    have ih := count_refs r s (by simpa using hl) (fun g hg => by have := h (g + 1) (by simpa using hg); simpa using this)
    simp only [List.getD_cons_zero] at h0
    rw [List.filter_cons, List.filter_cons]
    by_cases hx : x = true
    · rw [if_pos (by simpa using hx), if_pos (by simpa using h0.1 hx), List.length_cons, List.length_cons, ih]
    · rw [if_neg (by simpa using hx), if_neg (by simpa using fun q => hx (h0.2 q)), ih]
/-- Who turns is noted. -/
theorem trn_at : ∀ (l : List Ins) (s : List Bool) (k : Nat), k < s.length → (l.foldl (fun l i => if i.op = 10 then l.set i.n.toNat true else l) s).getD k false = (s.getD k false || l.any fun i => i.op == 10 && i.n.toNat == k)
  | [], s, k, _ => by simp
  | i :: l, s, k, hk => by
    rw [List.foldl_cons, trn_at l _ k (by split <;> simp [hk]), List.any_cons]
    by_cases h10 : i.op = 10
    · rw [if_pos h10]
      by_cases e : i.n.toNat = k
      · subst e
        rw [getD_set_eq _ _ _ _ hk]
        simp [h10]
      · rw [getD_set_ne _ _ _ _ _ e]
        have e2 : (i.n.toNat == k) = false := by simpa using e
        rw [e2, Bool.and_false, Bool.false_or]
    · rw [if_neg h10]
      have e3 : (i.op == 10) = false := by simpa using h10
      rw [e3, Bool.false_and, Bool.false_or]
/-- How many turns tell something: not more than the bound, and one. -/
theorem bnd_ge : ∀ (l : List Ins) (m b : List Int) (k : Nat), m.length = b.length → (∀ i ∈ l, i.op = 10 → 0 ≤ i.mn ∧ (i.mx = -1 ∨ i.mn ≤ i.mx)) → m.getD k 0 ≤ b.getD k 0 + 1 → 
    (mostP l m).getD k 0 ≤ (l.foldl (fun l i => if i.op = 10 then l.set i.n.toNat (max (l.getD i.n.toNat 0) (if i.mx < 0 then i.mn else i.mx)) else l) b).getD k 0 + 1
  | [], m, b, k, _, _, h => h
  | i :: l, m, b, k, hl, hi, h => by
    have hi2 : ∀ j ∈ l, j.op = 10 → 0 ≤ j.mn ∧ (j.mx = -1 ∨ j.mn ≤ j.mx) := fun j hj => hi j (List.mem_cons_of_mem _ hj)
    rw [List.foldl_cons]
    by_cases h10 : i.op = 10
    · obtain ⟨q1, q2⟩ := hi i (List.mem_cons_self ..) h10
      rw [show mostP (i :: l) m = mostP l (m.set i.n.toNat (max (max (m.getD i.n.toNat 0) i.mx) (i.mn + 1))) by rw [mostP, if_pos h10], if_pos h10]
      refine bnd_ge l _ _ k (by simp [hl]) hi2 ?_
      by_cases e : i.n.toNat = k
      · subst e
        by_cases hk : i.n.toNat < m.length
        · rw [getD_set_eq _ _ _ _ hk, getD_set_eq _ _ _ _ (by omega)]
          split <;> omega
        · rw [List.getD_eq_getElem?_getD, List.getElem?_eq_none (by simp; omega), List.getD_eq_getElem?_getD, List.getElem?_eq_none (by simp; omega)]
          simp
      · rw [getD_set_ne _ _ _ _ _ e, getD_set_ne _ _ _ _ _ e]
        exact h
    · rw [show mostP (i :: l) m = mostP l m by rw [mostP, if_neg h10], if_neg h10]
      exact bnd_ge l m b k hl hi2 h
/-- So many keys, 16 times, are not more than reference 16 allows. -/
theorem keys_back {ins : List Ins} {gr co : Nat} {fo pl : Bool} {t n : Nat} (hr : rightE ins gr co = 0) : Mul (keysN (mOf ins gr co fo pl t) n) (backN ins gr co n) := by
  obtain ⟨r1, r2, r3, r4, r5⟩ := right_ok hr
  have hfi : ∀ (k : Nat) (i : Ins), ins[k]? = some i → FineI ins.length gr co k i := fun k i hi => fine_ok (r5 k i hi)
  have hat : ∀ i ∈ ins, ∃ k, ins[k]? = some i := fun i hi => List.getElem?_of_mem hi
  have h8 : ∀ i ∈ ins, i.op = 8 → 0 ≤ i.n ∧ i.n < gr := fun i hi h => by
    obtain ⟨k, hk⟩ := hat i hi
    exact (hfi k i hk).g (.inr (.inr h))
  have h10 : ∀ i ∈ ins, i.op = 10 → 0 ≤ i.mn ∧ (i.mx = -1 ∨ i.mn ≤ i.mx) := fun i hi h => by
    obtain ⟨k, hk⟩ := hat i hi
    have hb := r5 k i hk
    unfold fineB at hb
    simp only [Bool.and_eq_true] at hb
    have hb2 := hb.1.2
    unfold boundsB at hb2
    rw [if_pos h] at hb2
    have := of_decide_eq_true hb2
    omega
  have h10' : ∀ i ∈ ins, i.op = 10 → 0 ≤ i.mn ∧ i.mn ≤ 255 ∧ i.mx ≤ 255 := fun i hi h => by
    obtain ⟨k, hk⟩ := hat i hi
    have := (hfi k i hk).b h
    omega
  have hS := slotN_R h8
  have hcount : ((refsN ins gr).filter id).length = nsS (mOf ins gr co fo pl t) := count_refs _ _ (by rw [hS.lr]; exact hS.ls.symm) (fun g hg => hS.ref g (by rw [← hS.lr]; exact hg))
  obtain ⟨ml, mb⟩ := mostP_inv ins (List.replicate co 0) h10' (fun v hv => by rw [List.eq_of_mem_replicate hv]; omega)
  rw [List.length_replicate] at ml
  have hml : (mOf ins gr co fo pl t).most.length = co := ml
  have b0 : Mul 1 16 := .inl (by omega)
  have b1 := mul_step b0 (Nat.le_refl ins.length) (by omega)
  have b2 := mul_step b1 (Nat.le_refl (n + 1)) (by omega)
  have b3 := mul_grp (n := n) (refsN ins gr) _ _ b2
  rw [hcount] at b3
  have b4 := mul_con ((bndN ins co).zip (trnN ins co)) ((List.range (mOf ins gr co fo pl t).most.length).map (rt (mOf ins gr co fo pl t))) _ _ (by simp [bnd_len, trn_len, hml]) (fun k p r h1 h2 => by
    have hk : k < co := by
      have := (List.getElem?_eq_some_iff.1 h2).1
      simp [hml] at this
      exact this
    rw [List.getElem?_map, List.getElem?_range (by rw [hml]; exact hk), Option.map_some] at h2
    injection h2 with h2
    rw [List.getElem?_zip_eq_some] at h1
    obtain ⟨p1, p2⟩ := p
    simp only at h1
    have e2 : p2 = turnedB (mOf ins gr co fo pl t) k := by
      have := trn_at ins (List.replicate co false) k (by simp [hk])
      have hg : (trnN ins co).getD k false = p2 := by rw [List.getD_eq_getElem?_getD, h1.2]; rfl
      unfold trnN at hg
      rw [hg] at this
      rw [this]
      unfold turnedB
      simp [List.getD_eq_getElem?_getD, List.getElem?_replicate, hk]
      rfl
    have e1 : (bndN ins co).getD k 0 = p1 := by rw [List.getD_eq_getElem?_getD, h1.1]; rfl
    rw [← h2, e2]
    unfold rt
    split
    · have hm : (mostN ins co).getD k 0 ≤ (bndN ins co).getD k 0 + 1 := bnd_ge ins (List.replicate co 0) (List.replicate co 0) k rfl h10 (by omega)
      rw [e1] at hm
      show 2 * (((mostN ins co).getD k 0).toNat + 1) ≤ 2 * (p1.toNat + 2)
      omega
    · exact Nat.le_refl _) b3
  have e : keysN (mOf ins gr co fo pl t) n = 1 * ins.length * (n + 1) * ((n + 2) * (n + 2) * (n + 2)) ^ nsS (mOf ins gr co fo pl t) * radP ((List.range (mOf ins gr co fo pl t).most.length).map (rt (mOf ins gr co fo pl t))) := by
    unfold keysN rads
    rw [radP, radP, radP_app, radP_three, List.length_range, Nat.one_mul]
    simp only [Nat.mul_assoc]
    rfl
  rw [e]
  exact b4
theorem keys_pos {ins : List Ins} {gr co : Nat} {fo pl : Bool} {t n : Nat} (hr : rightE ins gr co = 0) : 1 ≤ keysN (mOf ins gr co fo pl t) n := by
  obtain ⟨r1, r2, r3, r4, r5⟩ := right_ok hr
  have hW : MW (mOf ins gr co fo pl t) := new_MW hr (iterM_post (live0_shp _ _) (live0_post _ _ _ _) _).1
  have := code_lt (n := n) hW (startS (mOf ins gr co fo pl t) 0) (start_GW hW r4 (Nat.zero_le _))
  omega
/-- Few enough. -/
theorem may_ge {ins : List Ins} {gr co : Nat} {fo : Bool} {t n M : Nat} (hr : rightE ins gr co = 0) (h1 : M ≤ 8001) (h2 : M ≤ 1 + 2 * keysN (mOf ins gr co fo false t) n) : M ≤ backN ins gr co n := by
  have hp := keys_pos (fo := fo) (pl := false) (t := t) (n := n) hr
  rcases keys_back (fo := fo) (pl := false) (t := t) (n := n) hr with h | h <;> omega
theorem may_find {M b N n : Nat} (h : M ≤ b) (hb : b ≤ 4611686018427387904) (hM : M ≤ 8001) (hn : n ≤ N) (hN : N ≤ 100001) : n * M ≤ timesN b N := by
  rw [timesN_min]
  have h1 : n * M ≤ N * b := Nat.mul_le_mul hn h
  have h2 : n * M ≤ 100001 * 8001 := Nat.mul_le_mul (by omega) hM
  rw [Nat.mul_comm b N]
  omega
end Go.Proofs.Ytoadmpochaeohaa
end

section
set_option linter.unusedVariables false
set_option linter.unusedSimpArgs false
set_option maxRecDepth 100000
namespace Go.Proofs.Ytoadmpochaeohaa
open Go.RowKit

/-- A call. -/
structure Cal where
  line : ByteArray
  at_ : Int
  fd : Bool
def Cal.cells (c : Cal) : List Value := [.string c.line, .int .i64 c.at_, .bool c.fd]
def flatK (l : List Cal) : List Value := l.flatMap Cal.cells
/-- A machine, a program, some calls; how much has been done. -/
def Ply (w0 : World) (B : Nat) (D G : Nat → Prop) (b bP : Nat) (A : Option Addr) (n cp gr co : Nat) (fo : Bool) (ins : List Ins) (A2 : Option Addr) (n2 c2 : Nat) (cals : List Cal) (st : Stt) (m : Mc) (w : World) (s k : Nat) : Prop :=
  Idle w D b st m s k ∧ Blk w bP [.slice A n cp, .int .i64 gr, .int .i64 co, .bool fo] 24 ∧ Rd w G 10 A n cp (flatI ins) ∧ Rd w G 3 A2 n2 c2 (flatK cals) ∧ Frm (fun _ => False) w0 w ∧ B ≤ w.heap.size
/-- What asked answers. -/
def AskPost (T : World → Nat → Nat → Prop) (B s k may : Nat) (pl : Bool) (w : World) (e : Ending) (w' : World) : Prop :=
  ∃ s' k' : Nat, e = .returned (.bool true) ∧ T w' s' k' ∧ s ≤ s' ∧ s' ≤ s + 300000 ∧ (k ≤ k' ∧ k' ≤ max k 8001) ∧ (pl = true → k' = k) ∧ (pl = false → s' - s ≤ may) ∧ Frm (fun q => q < B) w w'
structure PlyT (w0 : World) (b bP B : Nat) (A : Option Addr) (n cp gr co : Nat) (fo pl : Bool) (ins : List Ins) (A2 : Option Addr) (n2 c2 : Nat) (cals : List Cal) (G : Nat → Prop) (T : World → Nat → Nat → Prop) : Prop where
  frm : ∀ w w' s k, T w s k → Frm (fun q => B ≤ q) w w' → T w' s k
  out : ∀ w s k, T w s k → Frm (fun _ => False) w0 w ∧ B ≤ w.heap.size
  blk : ∀ w s k, T w s k → Blk w bP [.slice A n cp, .int .i64 gr, .int .i64 co, .bool fo] 24
  cal : ∀ w s k, T w s k → Rd w G 3 A2 n2 c2 (flatK cals)
  steps : ∀ w s k, T w s k → Calls Try.prog 14 #[.pointer (some ⟨b, 0, none⟩)] w fun e w' => e = .returned (.int .i64 s) ∧ w = w'
  kept : ∀ w s k, T w s k → Calls Try.prog 15 #[.pointer (some ⟨b, 0, none⟩)] w fun e w' => e = .returned (.int .i64 k) ∧ w = w'
  refused : ∀ w s k (line : ByteArray) (at_ : Int) (fd : Bool), T w s k → (at_ < 0 ∨ (line.size : Int) < at_) → Calls Try.prog 16 #[.pointer (some ⟨b, 0, none⟩), .agg #[.string line, .int .i64 at_, .bool fd]] w fun e w' => e = .returned (.bool true) ∧ T w' s k ∧ Frm (fun q => q < B) w w'
  tame : ∀ w s k (line : ByteArray) (at_ : Nat) (fd : Bool), T w s k → at_ ≤ line.size → line.size ≤ 24 → Calls Try.prog 17 #[.agg #[.slice A n cp, .int .i64 gr, .int .i64 co, .bool fo], .bool pl, .agg #[.string line, .int .i64 at_, .bool fd]] w fun e w' => (e = .returned (.bool false) ∨ (e = .returned (.bool true) ∧ Hid (tameAll ins gr co fo line.toList pl fd at_))) ∧ T w' s k ∧ Frm (fun q => q < B) w w'
  asked : ∀ w s k (line : ByteArray) (at_ : Nat) (fd : Bool), T w s k → s ≤ 100000000 → k ≤ 8001 → at_ ≤ line.size → line.size ≤ 24 → Hid (tameAll ins gr co fo line.toList pl fd at_) → Calls Try.prog 18 #[.pointer (some ⟨b, 0, none⟩), .agg #[.slice A n cp, .int .i64 gr, .int .i64 co, .bool fo], .agg #[.string line, .int .i64 at_, .bool fd]] w (AskPost T B s k (mayN ins gr co line.size fd) pl w)
  may : ∀ w s k (line : ByteArray) (at_ : Int) (fd : Bool), T w s k → line.size ≤ 24 → Calls Try.prog 19 #[.agg #[.slice A n cp, .int .i64 gr, .int .i64 co, .bool fo], .agg #[.string line, .int .i64 at_, .bool fd]] w fun e w' => e = .returned (.int .i64 (mayN ins gr co line.size fd)) ∧ T w' s k ∧ Frm (fun q => q < B) w w'
theorem ply_T {w0 : World} {B : Nat} {D G : Nat → Prop} {b bP : Nat} {A : Option Addr} {n cp gr co : Nat} {fo pl : Bool} {ins : List Ins} {A2 : Option Addr} {n2 c2 : Nat} {cals : List Cal} {st : Stt} {t : Nat}
    (hr : rightE ins gr co = 0) (hok : ∀ i ∈ ins, i.ok) (hst : sweepM ins (slotN ins gr) (nsN ins gr) ins.length (iterM (sweepM ins (slotN ins gr) (nsN ins gr) ins.length) t (live0 ins.length (nsN ins gr))) = iterM (sweepM ins (slotN ins gr) (nsN ins gr) ins.length) t (live0 ins.length (nsN ins gr)))
    (hd : ∀ k, D k → k ≠ bP ∧ k < B) (hg : ∀ k, G k → k ≠ b ∧ k < B) (hb : b < B) (hbP : bP < B) (hne : b ≠ bP) (hg0 : w0.heap.size ≤ b) :
    PlyT w0 b bP B A n cp gr co fo pl ins A2 n2 c2 cals G (Ply w0 B D G b bP A n cp gr co fo ins A2 n2 c2 cals st (mOf ins gr co fo pl t)) := by
  have hW : MW (mOf ins gr co fo pl t) := new_MW hr (iterM_post (live0_shp _ _) (live0_post _ _ _ _) _).1
  have hin : 0 < (mOf ins gr co fo pl t).ins.length := (right_ok hr).2.2.2.1
  have key : ∀ {w w' : World} {s k : Nat}, Ply w0 B D G b bP A n cp gr co fo ins A2 n2 c2 cals st (mOf ins gr co fo pl t) w s k → Frm (fun _ => False) w w' → Ply w0 B D G b bP A n cp gr co fo ins A2 n2 c2 cals st (mOf ins gr co fo pl t) w' s k := by
    rintro w w' s k ⟨h1, h2, h3, h4, h5, h6⟩ hf
    exact ⟨h1.frm hf (fun h => h) (fun _ _ h => h), h2.frm hf (fun h => h), h3.frm hf (fun _ _ h => h), h4.frm hf (fun _ _ h => h), h5.trans hf, by have := hf.size; omega⟩
  constructor
  · rintro w w' s k ⟨h1, h2, h3, h4, h5, h6⟩ hf
    exact ⟨h1.frm hf (by omega) (fun q h => by have := hd q h; omega), h2.frm hf (by omega), h3.frm hf (fun q h => by have := hg q h; omega), h4.frm hf (fun q h => by have := hg q h; omega), h5.then hf (fun q hq hl => by have := h5.size; omega), by have := hf.size; omega⟩
  · rintro w s k ⟨h1, h2, h3, h4, h5, h6⟩
    exact ⟨h5, h6⟩
  · rintro w s k ⟨h1, h2, h3, h4, h5, h6⟩
    exact h2
  · rintro w s k ⟨h1, h2, h3, h4, h5, h6⟩
    exact h4
  · rintro w s k ⟨h1, h2, h3, h4, h5, h6⟩
    obtain ⟨sv, pv, l0, h⟩ := h1.obj
    exact stepsC b _ _ w h rfl
  · rintro w s k ⟨h1, h2, h3, h4, h5, h6⟩
    obtain ⟨sv, pv, l0, h⟩ := h1.obj
    exact keptC b _ _ w h rfl
  · rintro w s k line at_ fd hT hbad
    refine (refusedC20 (b := b) (line := line) (w := w) at_ fd hbad).mono ?_
    rintro e w' ⟨rfl, hf⟩
    exact ⟨rfl, key hT hf, hf.mono (fun _ h _ => h.elim)⟩
  · rintro w s k line at_ fd hT hat hl
    refine (tameX A n cp gr co fo pl fd ins line at_ G w hT.2.2.1 hr hok (by omega) (by omega)).mono ?_
    rintro e w' ⟨hres, hf⟩
    exact ⟨hres.imp id (fun h => ⟨h.1, Lib.hid h.2⟩), key hT hf, hf.mono (fun _ h _ => h.elim)⟩
  · rintro w s k line at_ fd hT hs hk hat hl htm
    have hla : line.toList.length = line.size := by rw [ByteArray.toList_eq]; simp
    obtain ⟨h1, h2, h3, h4, h5, h6⟩ := hT
    have fin : ∀ {w' : World} {s' k' : Nat}, Idle w' D b st (mOf ins gr co fo pl t) s' k' → Frm (fun q => q = b) w w' → Ply w0 B D G b bP A n cp gr co fo ins A2 n2 c2 cals st (mOf ins gr co fo pl t) w' s' k' ∧ Frm (fun q => q < B) w w' := fun hI hf =>
      ⟨⟨hI, h2.frm hf (fun e => hne e.symm), h3.frm hf (fun q h e => (hg q h).1 e), h4.frm hf (fun q h e => (hg q h).1 e), h5.then hf (fun q hq hl => by have h7 : q = b := hq; omega), by have := hf.size; omega⟩, hf.mono (fun q h _ => by have h7 : q = b := h; omega)⟩
    cases fd with
    | false =>
      have ha := htm.out at_ (Nat.le_refl _) (by omega) (fun _ => rfl)
      obtain ⟨o, hA, hrun⟩ := ans_run (fo := fo) hr (by omega) (by omega) ha.few t hst
      obtain ⟨r, r1, r2, r3, r4, r5, r6, r7⟩ := hrun pl ha.ways s k
      refine (askedL A n cp gr co fo ins line at_ o G D b s k st (mOf ins gr co fo pl t) r w h3 (fun q h => (hg q h).1) hr hok hW hin h1 hat (by omega) r1 r2 hA (by omega) (by omega)).mono ?_
      rintro e w' ⟨rfl, hI, hf⟩
      obtain ⟨f1, f2⟩ := fin hI hf
      refine ⟨r.steps, r.kept, rfl, f1, r3, by omega, r5, r6, fun hpl => ?_, f2⟩
      subst hpl
      have := r7 rfl
      rw [hla] at this
      exact may_ge (fo := fo) (t := t) hr (by omega) (by omega)
    | true =>
      have key2 : ∀ a, ∃ oa : Option Nat, at_ ≤ a → a ≤ line.size → Ans ins gr co fo line.toList a oa ∧ ∀ (st kp : Nat), ∃ r, ranS (mOf ins gr co fo pl t) line.toList 8001 a st kp = some r ∧ r.best = oa ∧ st ≤ r.steps ∧ r.steps ≤ st + 8001 ∧ (kp ≤ r.kept ∧ r.kept ≤ max kp 8001) ∧ (pl = true → r.kept = kp) ∧ (pl = false → r.steps ≤ st + (1 + 2 * keysN (mOf ins gr co fo pl t) line.toList.length)) := fun a => by
        by_cases h : at_ ≤ a ∧ a ≤ line.size
        · have ha := htm.out a h.1 (by omega) (fun h => by cases h)
          obtain ⟨o, hA, hrun⟩ := ans_run (fo := fo) hr (by omega) (by omega) ha.few t hst
          exact ⟨o, fun _ _ => ⟨hA, fun st kp => hrun pl ha.ways st kp⟩⟩
        · exact ⟨none, fun h1 h2 => absurd ⟨h1, h2⟩ h⟩
      obtain ⟨o, ho⟩ : ∃ o : Nat → Option Nat, ∀ a, at_ ≤ a → a ≤ line.size → Ans ins gr co fo line.toList a (o a) ∧ ∀ (st kp : Nat), ∃ r, ranS (mOf ins gr co fo pl t) line.toList 8001 a st kp = some r ∧ r.best = o a ∧ st ≤ r.steps ∧ r.steps ≤ st + 8001 ∧ (kp ≤ r.kept ∧ r.kept ≤ max kp 8001) ∧ (pl = true → r.kept = kp) ∧ (pl = false → r.steps ≤ st + (1 + 2 * keysN (mOf ins gr co fo pl t) line.toList.length)) :=
        ⟨fun a => Classical.choose (key2 a), fun a h1 h2 => Classical.choose_spec (key2 a) h1 h2⟩
      obtain ⟨M, hM1, hM2, hM3⟩ : ∃ M, M ≤ 8001 ∧ (pl = false → M ≤ 1 + 2 * keysN (mOf ins gr co fo pl t) line.toList.length) ∧ ∀ b2, at_ ≤ b2 → b2 < at_ + (line.size + 1 - at_) → ∀ st kp, ∃ r, ranS (mOf ins gr co fo pl t) line.toList 8001 b2 st kp = some r ∧ r.best = o b2 ∧ st ≤ r.steps ∧ r.steps ≤ st + M ∧ (kp ≤ r.kept ∧ r.kept ≤ max kp 8001) ∧ (pl = true → r.kept = kp) := by
        cases pl with
        | true =>
          refine ⟨8001, Nat.le_refl _, fun h => (by cases h), fun b2 h1 h2 st kp => ?_⟩
          obtain ⟨r, r1, r2, r3, r4, r5, r6, _⟩ := (ho b2 h1 (by omega)).2 st kp
          exact ⟨r, r1, r2, r3, r4, r5, r6⟩
        | false =>
          refine ⟨min 8001 (1 + 2 * keysN (mOf ins gr co fo false t) line.toList.length), by omega, fun _ => by omega, fun b2 h1 h2 st kp => ?_⟩
          obtain ⟨r, r1, r2, r3, r4, r5, r6, r7⟩ := (ho b2 h1 (by omega)).2 st kp
          have := r7 rfl
          exact ⟨r, r1, r2, r3, by omega, r5, r6⟩
      obtain ⟨s', k', q1, q2, q3, q4, q5⟩ := find_counts (m := mOf ins gr co fo pl t) (L := line.toList) (o := o) (F := 8001) (M := M) (Q := 8001) (pl := pl = true) (line.size + 1 - at_) at_ s k hM3
      have hmul : (line.size + 1 - at_) * M ≤ 25 * 8001 := Nat.mul_le_mul (by omega) hM1
      refine (askedF A n cp gr co fo ins line at_ o G D b s k s' k' st (mOf ins gr co fo pl t) w h3 (fun q h => (hg q h).1) hr hok hW hin h1 hat (by omega) q1 (fun a h1 h2 => (ho a h1 h2).1) (by omega) (by omega)).mono ?_
      rintro e w' ⟨rfl, hI, hf⟩
      obtain ⟨f1, f2⟩ := fin hI hf
      refine ⟨s', k', rfl, f1, q2, by omega, q4, q5, fun hpl => ?_, f2⟩
      subst hpl
      have hm := hM2 rfl
      rw [hla] at hm
      have hb2 := may_ge (fo := fo) (t := t) (n := line.size) hr hM1 hm
      have hf2 := may_find (n := line.size + 1 - at_) (N := line.size + 1) hb2 (backN_le _ _ _ _) hM1 (by omega) (by omega)
      show s' - s ≤ timesN (backN ins gr co line.size) (line.size + 1)
      omega
  · rintro w s k line at_ fd hT hl
    refine (mayC A n cp gr co fo ins line at_ fd G w hT.2.2.1 hr (by omega)).mono ?_
    rintro e w' ⟨rfl, hf⟩
    exact ⟨rfl, key hT hf, hf.mono (fun _ h _ => h.elim)⟩
end Go.Proofs.Ytoadmpochaeohaa
end
