/-
  Layer 20: BackAlike's law, walked.
-/
import Derived.Test.YtoadmpochaeohaaPa36
import Derived.Laws.StructEq
section
set_option linter.unusedVariables false
set_option linter.unusedSimpArgs false
set_option maxRecDepth 100000
namespace Go.Proofs.Ytoadmpochaeohaa
open Go.RowKit

theorem ba_lenA (a : ByteArray) : a.toList.length = a.size := by rw [ByteArray.toList_eq]; simp
theorem fields50 : Try.prog.underlying 50 = some (.struct (Try.prog.fieldsOf 50)) := by kernel_rfl
theorem stood50 : Try.prog.stoodInHeld 50 = false := by kernel_rfl
/-- Two equal spans are equal. -/
theorem run_eqSpanN (x y : Int) (w : World) : (Op.equalIn 10000 50 (.agg #[.int .i64 x, .int .i64 y]) (.agg #[.int .i64 x, .int .i64 y])).run Try.prog w = .ok true w := by
  rw [show (10000 : Nat) = 9998 + 1 + 1 from rfl, run_equalIn_struct w (9998 + 1) 50 _ _ fields50 stood50]
  go_simp
attribute [local go_sem high] run_eqSpanN
attribute [local go_sem] eqGuard50
/-- Two machines side by side, how much they have done. -/
def Two (w0 : World) (B : Nat) (D1 D2 : Nat → Prop) (b1 b2 : Nat) (st1 st2 : Stt) (m1 m2 : Mc) (w : World) (S : Nat) : Prop :=
  ∃ s1 k1 s2 k2 : Nat, Idle w D1 b1 st1 m1 s1 k1 ∧ Idle w D2 b2 st2 m2 s2 k2 ∧ s1 ≤ S ∧ s2 ≤ S ∧ k1 ≤ 5000 ∧ k2 ≤ 5000 ∧ Frm (fun _ => False) w0 w ∧ B ≤ w.heap.size
/-- What a walk may ask of them. -/
structure TwoT (w0 : World) (line : ByteArray) (b1 b2 B : Nat) (o : Nat → Option Nat) (T : World → Nat → Prop) : Prop where
  frm : ∀ w w' S, T w S → Frm (fun k => B ≤ k) w w' → T w' S
  out : ∀ w S, T w S → Frm (fun _ => False) w0 w ∧ B ≤ w.heap.size
  l1 : ∀ w S (a : Nat), T w S → S ≤ 10000000 → a ≤ line.size → Calls Try.prog 20 #[.pointer (some ⟨b1, 0, none⟩), .string line, .int .i64 a] w fun e w' => e = .returned (.tuple #[.int .i64 ((o a).getD 0 : Nat), .bool (o a).isSome, .int .i64 0]) ∧ T w' (S + 5000) ∧ Frm (fun k => k < B) w w'
  l2 : ∀ w S (a : Nat), T w S → S ≤ 10000000 → a ≤ line.size → Calls Try.prog 20 #[.pointer (some ⟨b2, 0, none⟩), .string line, .int .i64 a] w fun e w' => e = .returned (.tuple #[.int .i64 ((o a).getD 0 : Nat), .bool (o a).isSome, .int .i64 0]) ∧ T w' (S + 5000) ∧ Frm (fun k => k < B) w w'
  f1 : ∀ w S (a : Nat), T w S → S ≤ 10000000 → a ≤ line.size → Calls Try.prog 21 #[.pointer (some ⟨b1, 0, none⟩), .string line, .int .i64 a] w fun e w' => e = .returned (.tuple #[spanV (firstO o (line.size + 1 - a) a), .bool (firstO o (line.size + 1 - a) a).isSome, .int .i64 0]) ∧ T w' (S + 125000) ∧ Frm (fun k => k < B) w w'
  f2 : ∀ w S (a : Nat), T w S → S ≤ 10000000 → a ≤ line.size → Calls Try.prog 21 #[.pointer (some ⟨b2, 0, none⟩), .string line, .int .i64 a] w fun e w' => e = .returned (.tuple #[spanV (firstO o (line.size + 1 - a) a), .bool (firstO o (line.size + 1 - a) a).isSome, .int .i64 0]) ∧ T w' (S + 125000) ∧ Frm (fun k => k < B) w w'
theorem two_T {w0 : World} {line : ByteArray} {B : Nat} {D1 D2 : Nat → Prop} {b1 b2 : Nat} {st1 st2 : Stt} {m1 m2 : Mc} {o : Nat → Option Nat} (hl : line.size ≤ 24)
    (hW1 : MW m1) (hW2 : MW m2) (hi1 : 0 < m1.ins.length) (hi2 : 0 < m2.ins.length) (hne : b1 ≠ b2) (hd1 : ∀ k, D1 k → k ≠ b2 ∧ k < B) (hd2 : ∀ k, D2 k → k ≠ b1 ∧ k < B) (hb1 : b1 < B) (hb2 : b2 < B) (hg1 : w0.heap.size ≤ b1) (hg2 : w0.heap.size ≤ b2)
    (o1 : ∀ a, a ≤ line.size → ∀ st kp, ∃ r, ranS m1 line.toList 5000 a st kp = some r ∧ r.best = o a) (o2 : ∀ a, a ≤ line.size → ∀ st kp, ∃ r, ranS m2 line.toList 5000 a st kp = some r ∧ r.best = o a) :
    TwoT w0 line b1 b2 B o (Two w0 B D1 D2 b1 b2 st1 st2 m1 m2) := by
  constructor
  · rintro w w' S ⟨s1, k1, s2, k2, h1, h2, q1, q2, q3, q4, q5, q6⟩ hf
    exact ⟨s1, k1, s2, k2, h1.frm hf (by omega) (fun k h => by have := hd1 k h; omega), h2.frm hf (by omega) (fun k h => by have := hd2 k h; omega), q1, q2, q3, q4, q5.then hf (fun q hq hl => by have := q5.size; omega), by have := hf.size; omega⟩
  · rintro w S ⟨s1, k1, s2, k2, h1, h2, q1, q2, q3, q4, q5, q6⟩
    exact ⟨q5, q6⟩
  · rintro w S a ⟨s1, k1, s2, k2, h1, h2, q1, q2, q3, q4, q5, q6⟩ hS ha
    obtain ⟨r, hr, hb⟩ := o1 a ha s1 k1
    have hbd := run_bound _ _ _ _ hr
    simp only [List.length_nil, Nat.zero_add] at hbd
    refine (longestB (line := line) a _ r hW1 h1 ha (by omega) hi1 hr (by omega) (by omega) (by omega)).mono ?_
    rintro e w' ⟨rfl, h1', hf⟩
    rw [hb]
    exact ⟨rfl, ⟨r.steps, r.kept, s2, k2, h1', h2.frm hf (fun e => hne e.symm) (fun k h => (hd2 k h).1), by omega, by omega, by omega, q4, q5.then hf (fun q hq hl => by omega), by have := hf.size; omega⟩, hf.mono (fun k _ h => by omega)⟩
  · rintro w S a ⟨s1, k1, s2, k2, h1, h2, q1, q2, q3, q4, q5, q6⟩ hS ha
    obtain ⟨r, hr, hb⟩ := o2 a ha s2 k2
    have hbd := run_bound _ _ _ _ hr
    simp only [List.length_nil, Nat.zero_add] at hbd
    refine (longestB (line := line) a _ r hW2 h2 ha (by omega) hi2 hr (by omega) (by omega) (by omega)).mono ?_
    rintro e w' ⟨rfl, h2', hf⟩
    rw [hb]
    exact ⟨rfl, ⟨s1, k1, r.steps, r.kept, h1.frm hf hne (fun k h => (hd1 k h).1), h2', by omega, by omega, q3, by omega, q5.then hf (fun q hq hl => by omega), by have := hf.size; omega⟩, hf.mono (fun k _ h => by omega)⟩
  · rintro w S a ⟨s1, k1, s2, k2, h1, h2, q1, q2, q3, q4, q5, q6⟩ hS ha
    obtain ⟨s, k, hr, r1, r2⟩ := find_few (m := m1) (L := line.toList) (o := o) (line.size + 1 - a) a s1 k1 (fun b _ h st kp => o1 b (by omega) st kp)
    have : (line.size + 1 - a) * 5000 ≤ 125000 := by omega
    refine (findB (line := line) a _ _ hW1 h1 ha (by omega) hi1 hr (by omega) (by omega) (by omega)).mono ?_
    rintro e w' ⟨rfl, h1', hf⟩
    exact ⟨rfl, ⟨s, k, s2, k2, h1', h2.frm hf (fun e => hne e.symm) (fun k h => (hd2 k h).1), by omega, by omega, by omega, q4, q5.then hf (fun q hq hl => by omega), by have := hf.size; omega⟩, hf.mono (fun k _ h => by omega)⟩
  · rintro w S a ⟨s1, k1, s2, k2, h1, h2, q1, q2, q3, q4, q5, q6⟩ hS ha
    obtain ⟨s, k, hr, r1, r2⟩ := find_few (m := m2) (L := line.toList) (o := o) (line.size + 1 - a) a s2 k2 (fun b _ h st kp => o2 b (by omega) st kp)
    have : (line.size + 1 - a) * 5000 ≤ 125000 := by omega
    refine (findB (line := line) a _ _ hW2 h2 ha (by omega) hi2 hr (by omega) (by omega) (by omega)).mono ?_
    rintro e w' ⟨rfl, h2', hf⟩
    exact ⟨rfl, ⟨s1, k1, s, k, h1.frm hf hne (fun k h => (hd1 k h).1), h2', by omega, by omega, q3, by omega, q5.then hf (fun q hq hl => by omega), by have := hf.size; omega⟩, hf.mono (fun k _ h => by omega)⟩
/-- The first place and the end, as the walk keeps them. -/
def qF (q : Option (Nat × Nat)) : Int := match q with | some (x, _) => x | none => -1
def qT (q : Option (Nat × Nat)) : Int := match q with | some (_, e) => e | none => 0
/-- Between two places, from the line's end down. -/
def AlI (T : World → Nat → Prop) (o : Nat → Option Nat) (N : Nat) (f t i : Value) (wr : World) : Prop :=
  ∃ (k S : Nat) (at_ : Int), f = .int .i64 (qF (firstO o (N + 1 - k) k)) ∧ t = .int .i64 (qT (firstO o (N + 1 - k) k)) ∧ i = .int .i64 at_ ∧ at_ + 1 = k ∧ k ≤ N + 1 ∧ S + k * 260000 ≤ 10000000 ∧ T wr S
set_option maxHeartbeats 16000000 in
theorem lawAlikeB (A : Option Addr) (n cp : Nat) (gr co : Int) (fo : Bool) (ins : List Ins) (line0 : ByteArray) (G : Nat → Prop) (w : World) (hrd : Rd w G 10 A n cp (flatI ins)) (hok : ∀ i ∈ ins, i.ok) :
    Calls Try.prog 5 #[.agg #[.slice A n cp, .int .i64 gr, .int .i64 co, .bool fo], .string line0] w fun e w' => e = .returned (.bool true) ∧ Frm (fun _ => False) w w' := by
  have hP := Blk.new w [.slice A n cp, .int .i64 gr, .int .i64 co, .bool fo] 24
  have hf0 : Frm (fun _ => False) w (w.alloc (.cells #[.slice A n cp, .int .i64 gr, .int .i64 co, .bool fo] 24)) := (Frm.refl _ w).alloc _
  have HK := Lib.hid (knownC (w.alloc (.cells #[.slice A n cp, .int .i64 gr, .int .i64 co, .bool fo] 24)))
  have HRD := Lib.hid (hrd.low.frm hf0 (fun _ _ h => h))
  have HOK := Lib.hid hok
  clear hrd hok
  go_enter Try.func5, Try.ntmps5
  go_upto_region 1 with fail
  generalize w.alloc (.cells #[.slice A n cp, .int .i64 gr, .int .i64 co, .bool fo] 24) = w1 at *
  obtain ⟨bP, hbP⟩ : ∃ bP, w.heap.size = bP := ⟨_, rfl⟩
  simp only [hbP] at hP HRD ⊢
  have HBP := Lib.hid hbP
  clear hbP
  go_wp2_with fail
  refine HK.out.mono ?_
  rintro e w2 ⟨rfl, hf2⟩
  have hP2 := hP.frm hf2 (fun h => h)
  have HRD := Lib.hid (HRD.out.frm hf2 (fun _ _ h => h))
  have hff := hf0.trans hf2
  clear hP hf2 hf0 HK
  obtain ⟨x0, x1, x2, x3, y0, y1, y2, y3, lx⟩ := blk4 hP2
  by_cases hr : rightE ins gr co = 0
  · obtain ⟨r1, r2, r3, r4, r5⟩ := right_ok hr
    obtain ⟨gn, rfl⟩ := Int.eq_ofNat_of_zero_le r2.1
    obtain ⟨cn, rfl⟩ := Int.eq_ofNat_of_zero_le r3.1
    have HN := Lib.hid (newOk A n cp gn cn fo false ins _ w2 HRD.out hr)
    have HR := Lib.hid (⟨hr, r4⟩ : _ ∧ _)
    clear r1 r2 r3 r4 r5 hr
    go_wp2_with fail
    refine HN.out.mono ?_
    rintro e w3 ⟨b, st, t, D, rfl, hI3, hst, hsh, hb, hD, hf3⟩
    have hP3 := hP2.frm hf3 (fun h => h)
    have hrd3 := HRD.out.frm hf3 (fun _ _ h => h)
    have HN2 := Lib.hid (newOk A n cp gn cn fo true ins _ w3 hrd3 HR.out.1)
    have hff3 := hff.trans hf3
    have hg := hff.size
    have hz3 := hf3.size
    have hlb : b < w3.heap.size := by obtain ⟨_, _, _, h⟩ := hI3.obj; exact h.lt
    clear x0 x1 x2 x3 y0 y1 y2 y3 lx hP2 hf3 hff HN
    obtain ⟨x0, x1, x2, x3, y0, y1, y2, y3, lx⟩ := blk4 hP3
    go_wp2_with fail
    refine HN2.out.mono ?_
    rintro e w4 ⟨b', st', t', D', rfl, hI4', hst', hsh', hb', hD', hf4⟩
    have hP4 := hP3.frm hf4 (fun h => h)
    have hrd4 := hrd3.frm hf4 (fun _ _ h => h)
    have hI4 := hI3.low.frm hf4 (fun h => h) (fun _ _ h => h)
    have hff4 := hff3.trans hf4
    have hz4 := hf4.size
    have hbb : b ≠ b' := by omega
    clear x0 x1 x2 x3 y0 y1 y2 y3 lx hP3 hf4 hff3 HN2 hI3 hrd3
    change Idle w4 _ b st (mOf ins gn cn fo false t) 0 0 at hI4
    change Idle w4 D' b' st' (mOf ins gn cn fo true t') 0 0 at hI4'
    obtain ⟨m, hm⟩ : ∃ m, min line0.size 24 = m := ⟨_, rfl⟩
    have hmin : ∀ (w : World) (ty : TypeId), (Builtin.min_ #[3, 3] ty #[.int .i64 line0.size, .int .i64 24]).run Try.prog w = .ok (.int .i64 m) w := fun w ty => by
      have hm2 : (if (24 : Int) < line0.size then (24 : Int) else line0.size) = m := by rw [← hm, Nat.min_def]; split <;> split <;> omega
      simp [Builtin.min_, Builtin.min2, hm2]
    have hm1 : m ≤ line0.size := by omega
    have hls : (line0.extract 0 m).size = m := by rw [ByteArray.size_extract]; omega
    have hm24 : m ≤ 24 := by omega
    have HTM := Lib.hid (tameC A n cp gn cn fo ins (line0.extract 0 m) 0 _ w4 hrd4 HR.out.1 HOK.out (Nat.zero_le _) (by omega))
    clear hm
    obtain ⟨x0, x1, x2, x3, y0, y1, y2, y3, lx⟩ := blk4 hP4
    go_wp2_with fail
    refine HTM.out.mono ?_
    rintro e w5 ⟨hres, hf5⟩
    have hff5 := hff4.trans hf5
    rcases hres with rfl | ⟨rfl, htame⟩
    · go_wp2_with fail
      go_ret
      exact ⟨rfl, hff5⟩
    · have hlen0 : 0 < ins.length := (right_ok HR.out.1).2.2.2.1
      have hba := ba_lenA (line0.extract 0 m)
      obtain ⟨o, ho⟩ := tame_best (L := (line0.extract 0 m).toList) HR.out.1 (by omega) htame t hst
      have hz5 := hf5.size
      have hI5 := hI4.frm hf5 (fun h => h) (fun _ _ h => h)
      have hI5' := hI4'.low.frm hf5 (fun h => h) (fun _ _ h => h)
      have hlb' : b' < w4.heap.size := by obtain ⟨_, _, _, h⟩ := hI4'.obj; exact h.lt
      have hTT : ∃ T, TwoT w (line0.extract 0 m) b b' w5.heap.size o T ∧ T w5 0 := by
        refine ⟨_, two_T (D1 := fun k => D k ∧ k < w3.heap.size) (D2 := fun k => D' k ∧ k < w4.heap.size) (st1 := st) (st2 := st') (by omega) (new_MW HR.out.1 hsh) (new_MW HR.out.1 hsh') hlen0 hlen0 hbb
          (fun k h => ⟨by have := h.2; omega, by have := h.2; omega⟩) (fun k h => ⟨by have := hD' k h.1; omega, by have := h.2; omega⟩) (by omega) (by omega) (by omega) (by omega)
          (fun a ha st kp => ho false t hst a (by omega) st kp) (fun a ha st kp => ho true t' hst' a (by omega) st kp), ?_⟩
        exact ⟨0, 0, 0, 0, hI5, hI5', by omega, by omega, by omega, by omega, hff5, Nat.le_refl _⟩
      obtain ⟨T, hTT, h0⟩ := hTT
      generalize w5.heap.size = B at hTT
      have HT := Lib.hid hTT
      have HT0 := Lib.hid h0
      clear hTT h0 hI5 hI5' hI4 hI4' htame ho hst hst' hsh hsh' hD hD' hb hb' hlb hlb' hg hz3 hz4 hz5 hba hlen0 HTM hmin hf5 hff4 hff5 hrd4 hP4 x0 x1 x2 x3 y0 y1 y2 y3 lx hbb HOK HR HRD HBP hm1
      go_upto_region 11 with fail
      generalize line0.extract 0 m = line at *
      subst hls
      have HA0 : Hid (AlI T o line.size (.int .i64 (-1)) (.int .i64 0) (.int .i64 line.size) w5) := Lib.hid ⟨line.size + 1, 0, line.size, by rw [Nat.sub_self]; rfl, by rw [Nat.sub_self]; rfl, rfl, by omega, by omega, by omega, HT0.out⟩
      clear HT0
      go_wp2_with fail
      go_loopw [11, 12, 13] (fun f t i wr => AlI T o line.size f t i wr) (fun _ _ i _ => (intOf i + 1).toNat)
      case atStart => exact HA0.out
      case round =>
        clear HA0
        obtain ⟨k, S, at_, rfl, rfl, rfl, hk, hkN, hS, hT⟩ := hrel
        have HTW := Lib.hid hT
        clear hT
        rcases k with _ | a
        · obtain rfl : at_ = -1 := by omega
          have hfr := Lib.hid (HT.out.out _ _ HTW.out).1
          clear hk hkN hS
          go_wp2_with fail
          go_ret
          exact ⟨rfl, hfr.out⟩
        · obtain rfl : at_ = (a : Int) := by omega
          have hal : a ≤ line.size := by omega
          have hS1 : S + a * 260000 + 260000 ≤ 10000000 := by omega
          have d1 : decide (0 ≤ (a : Int)) = true := decide_eq_true (by omega)
          obtain ⟨y, hy⟩ : ∃ y : Int, (a : Int) - 1 = y := ⟨_, rfl⟩
          have hwy : IntKind.i64.wrap ((a : Int) - 1) = y := by rw [IntWalk.i64_in _ (by omega)]; exact hy
          have HY := Lib.hid hy
          have HQ : Hid (firstO o (line.size + 1 - a) a = match o a with | some e => some (a, e) | none => firstO o (line.size + 1 - (a + 1)) (a + 1)) := by rw [Hid, show line.size + 1 - a = (line.size + 1 - (a + 1)) + 1 by omega]; rfl
          clear hk hkN hS hy
          have HL1 := Lib.hid (HT.out.l1 _ _ a HTW.out (by omega) hal)
          generalize firstO o (line.size + 1 - (a + 1)) (a + 1) = q0 at *
          have HOA : Hid (∃ oa, o a = oa) := Lib.hid ⟨_, rfl⟩
          obtain ⟨oa, hoa⟩ := HOA.out
          rw [hoa] at HL1 HQ
          have HO := Lib.hid hoa
          clear hoa HOA
          go_wp2_with fail
          refine HL1.out.mono ?_
          rintro e w6 ⟨rfl, hT6, hf6⟩
          have HL2 := Lib.hid (HT.out.l2 _ _ a hT6 (by omega) hal)
          rw [HO.out] at HL2
          clear hT6 hf6 HL1
          go_wp2_with fail
          refine HL2.out.mono ?_
          rintro e w7 ⟨rfl, hT7, hf7⟩
          clear hf7 HL2
          have HF1 := Lib.hid (HT.out.f1 _ _ a hT7 (by omega) hal)
          rw [HQ.out] at HF1
          clear hT7
          rcases oa with _ | e
          · rcases q0 with _ | ⟨x, e⟩
            · simp only [qF, qT, spanV, Option.isSome_some, Option.isSome_none, Option.getD_none] at HF1 HQ ⊢
              clear HO
              go_wp2_with fail
              refine HF1.out.mono ?_
              rintro e9 w8 ⟨rfl, hT8, hf8⟩
              have HT8 := Lib.hid hT8
              clear hT8 hf8
              go_upto_region 23 with fail
              have hX9 := Blk.new w8 [.int .i64 0, .int .i64 0] 50
              have hf9 : Frm (fun k => B ≤ k) w8 (w8.alloc (.cells #[.int .i64 0, .int .i64 0] 50)) := (Frm.refl _ _).alloc _
              have hg9 := (HT.out.out _ _ HT8.out).2
              generalize w8.alloc (.cells #[.int .i64 0, .int .i64 0] 50) = w9 at *
              obtain ⟨bX, hbX⟩ : ∃ bX, w8.heap.size = bX := ⟨_, rfl⟩
              simp only [hbX] at hX9 hg9 ⊢
              clear hbX
              have hT9 := HT.out.frm _ _ _ HT8.out hf9
              have HF2 := Lib.hid (HT.out.f2 _ _ a hT9 (by omega) hal)
              rw [HQ.out] at HF2
              simp only [spanV, Option.isSome_some, Option.isSome_none] at HF2
              clear hT9 HT8 HF1 hf9
              go_wp2_with fail
              refine HF2.out.mono ?_
              rintro e9 w10 ⟨rfl, hT10, hf10⟩
              have hX10 := hX9.frm hf10 (fun h => by omega)
              have HT10 := Lib.hid hT10
              clear hT10 hf10 hX9 HF2
              go_upto_region 24 with fail
              have hY11 := Blk.new w10 [.int .i64 0, .int .i64 0] 50
              have hX11 := hX10.alloc (.cells #[.int .i64 0, .int .i64 0] 50)
              have hf11 : Frm (fun k => B ≤ k) w10 (w10.alloc (.cells #[.int .i64 0, .int .i64 0] 50)) := (Frm.refl _ _).alloc _
              have hlx := hX10.lt
              generalize w10.alloc (.cells #[.int .i64 0, .int .i64 0] 50) = w11 at *
              obtain ⟨bY, hbY⟩ : ∃ bY, w10.heap.size = bY := ⟨_, rfl⟩
              simp only [hbY] at hY11 hlx ⊢
              clear hbY
              have HT11 := Lib.hid (HT.out.frm _ _ _ HT10.out hf11)
              clear hX10 HT10 hf11
              go_upto_region 25 with fail
              have hZ12 := Blk.new w11 [.int .i64 0, .int .i64 0] 50
              have hX12 := hX11.alloc (.cells #[.int .i64 0, .int .i64 0] 50)
              have hY12 := hY11.alloc (.cells #[.int .i64 0, .int .i64 0] 50)
              have hf12 : Frm (fun k => B ≤ k) w11 (w11.alloc (.cells #[.int .i64 0, .int .i64 0] 50)) := (Frm.refl _ _).alloc _
              have hly := hY11.lt
              generalize w11.alloc (.cells #[.int .i64 0, .int .i64 0] 50) = w12 at *
              obtain ⟨bZ, hbZ⟩ : ∃ bZ, w11.heap.size = bZ := ⟨_, rfl⟩
              simp only [hbZ] at hZ12 hly ⊢
              clear hbZ
              have HT12 := Lib.hid (HT.out.frm _ _ _ HT11.out hf12)
              clear hX11 hY11 HT11 hf12
              have x0 := hX12.cell 0
              have x1 := hX12.cell 1
              have y0 := hY12.cell 0
              have y1 := hY12.cell 1
              have z0 := hZ12.cell 0
              have z1 := hZ12.cell 1
              have fz0 := hZ12.frozen 0
              have fz1 := hZ12.frozen 1
              simp only [List.getElem?_cons_zero, List.getElem?_cons_succ] at x0 x1 y0 y1 z0 z1
              have lx := hX12.lt
              have ly := hY12.lt
              have lz := hZ12.lt
              have nXZ : bX ≠ bZ := by omega
              have nYZ : bY ≠ bZ := by omega
              have nZX : bZ ≠ bX := fun h => nXZ h.symm
              have nZY : bZ ≠ bY := fun h => nYZ h.symm
              rw [show S + 5000 + 5000 + 125000 + 125000 = S + 260000 by omega] at HT12
              have HSET : Hid (∀ u v : Value, T ((w12.setCell ⟨bZ, 0, none⟩ u).setCell ⟨bZ, 1, none⟩ v) (S + 260000)) := Lib.hid fun u v => HT.out.frm _ _ _ HT12.out (((Frm.refl (fun k => B ≤ k) w12).set bZ 0 u (fun _ => by omega)).set bZ 1 v (fun _ => by omega))
              have HNS : Hid (T w12 (S + 260000)) := HT12
              clear HT12 hX12 hY12 hZ12
              have hgu := eqGuard50
              go_wp2_with fail
              go_roundw
              case measure => have := HY.out; simp [intOf] <;> omega
              case rel => exact ⟨a, S + 260000, y, by rw [HQ.out]; rfl, by rw [HQ.out]; rfl, rfl, by have := HY.out; omega, by omega, by omega, HNS.out⟩
            · have d2 : decide (0 ≤ (x : Int)) = true := decide_eq_true (by omega)
              simp only [qF, qT, spanV, Option.isSome_some, Option.isSome_none, Option.getD_none] at HF1 HQ ⊢
              clear HO
              go_wp2_with fail
              refine HF1.out.mono ?_
              rintro e9 w8 ⟨rfl, hT8, hf8⟩
              have HT8 := Lib.hid hT8
              clear hT8 hf8
              go_upto_region 23 with fail
              have hX9 := Blk.new w8 [.int .i64 x, .int .i64 e] 50
              have hf9 : Frm (fun k => B ≤ k) w8 (w8.alloc (.cells #[.int .i64 x, .int .i64 e] 50)) := (Frm.refl _ _).alloc _
              have hg9 := (HT.out.out _ _ HT8.out).2
              generalize w8.alloc (.cells #[.int .i64 x, .int .i64 e] 50) = w9 at *
              obtain ⟨bX, hbX⟩ : ∃ bX, w8.heap.size = bX := ⟨_, rfl⟩
              simp only [hbX] at hX9 hg9 ⊢
              clear hbX
              have hT9 := HT.out.frm _ _ _ HT8.out hf9
              have HF2 := Lib.hid (HT.out.f2 _ _ a hT9 (by omega) hal)
              rw [HQ.out] at HF2
              simp only [spanV, Option.isSome_some, Option.isSome_none] at HF2
              clear hT9 HT8 HF1 hf9
              go_wp2_with fail
              refine HF2.out.mono ?_
              rintro e9 w10 ⟨rfl, hT10, hf10⟩
              have hX10 := hX9.frm hf10 (fun h => by omega)
              have HT10 := Lib.hid hT10
              clear hT10 hf10 hX9 HF2
              go_upto_region 24 with fail
              have hY11 := Blk.new w10 [.int .i64 x, .int .i64 e] 50
              have hX11 := hX10.alloc (.cells #[.int .i64 x, .int .i64 e] 50)
              have hf11 : Frm (fun k => B ≤ k) w10 (w10.alloc (.cells #[.int .i64 x, .int .i64 e] 50)) := (Frm.refl _ _).alloc _
              have hlx := hX10.lt
              generalize w10.alloc (.cells #[.int .i64 x, .int .i64 e] 50) = w11 at *
              obtain ⟨bY, hbY⟩ : ∃ bY, w10.heap.size = bY := ⟨_, rfl⟩
              simp only [hbY] at hY11 hlx ⊢
              clear hbY
              have HT11 := Lib.hid (HT.out.frm _ _ _ HT10.out hf11)
              clear hX10 HT10 hf11
              go_upto_region 25 with fail
              have hZ12 := Blk.new w11 [.int .i64 0, .int .i64 0] 50
              have hX12 := hX11.alloc (.cells #[.int .i64 0, .int .i64 0] 50)
              have hY12 := hY11.alloc (.cells #[.int .i64 0, .int .i64 0] 50)
              have hf12 : Frm (fun k => B ≤ k) w11 (w11.alloc (.cells #[.int .i64 0, .int .i64 0] 50)) := (Frm.refl _ _).alloc _
              have hly := hY11.lt
              generalize w11.alloc (.cells #[.int .i64 0, .int .i64 0] 50) = w12 at *
              obtain ⟨bZ, hbZ⟩ : ∃ bZ, w11.heap.size = bZ := ⟨_, rfl⟩
              simp only [hbZ] at hZ12 hly ⊢
              clear hbZ
              have HT12 := Lib.hid (HT.out.frm _ _ _ HT11.out hf12)
              clear hX11 hY11 HT11 hf12
              have x0 := hX12.cell 0
              have x1 := hX12.cell 1
              have y0 := hY12.cell 0
              have y1 := hY12.cell 1
              have z0 := hZ12.cell 0
              have z1 := hZ12.cell 1
              have fz0 := hZ12.frozen 0
              have fz1 := hZ12.frozen 1
              simp only [List.getElem?_cons_zero, List.getElem?_cons_succ] at x0 x1 y0 y1 z0 z1
              have lx := hX12.lt
              have ly := hY12.lt
              have lz := hZ12.lt
              have nXZ : bX ≠ bZ := by omega
              have nYZ : bY ≠ bZ := by omega
              have nZX : bZ ≠ bX := fun h => nXZ h.symm
              have nZY : bZ ≠ bY := fun h => nYZ h.symm
              rw [show S + 5000 + 5000 + 125000 + 125000 = S + 260000 by omega] at HT12
              have HSET : Hid (∀ u v : Value, T ((w12.setCell ⟨bZ, 0, none⟩ u).setCell ⟨bZ, 1, none⟩ v) (S + 260000)) := Lib.hid fun u v => HT.out.frm _ _ _ HT12.out (((Frm.refl (fun k => B ≤ k) w12).set bZ 0 u (fun _ => by omega)).set bZ 1 v (fun _ => by omega))
              have HNS : Hid (T w12 (S + 260000)) := HT12
              clear HT12 hX12 hY12 hZ12
              have hgu := eqGuard50
              go_wp2_with fail
              go_roundw
              case measure => have := HY.out; simp [intOf] <;> omega
              case rel => exact ⟨a, S + 260000, y, by rw [HQ.out]; rfl, by rw [HQ.out]; rfl, rfl, by have := HY.out; omega, by omega, by omega, HSET.out _ _⟩
          · simp only [qF, qT, spanV, Option.isSome_some, Option.isSome_none, Option.getD_some] at HF1 HQ ⊢
            clear HO
            go_wp2_with fail
            refine HF1.out.mono ?_
            rintro e9 w8 ⟨rfl, hT8, hf8⟩
            have HT8 := Lib.hid hT8
            clear hT8 hf8
            go_upto_region 23 with fail
            have hX9 := Blk.new w8 [.int .i64 a, .int .i64 e] 50
            have hf9 : Frm (fun k => B ≤ k) w8 (w8.alloc (.cells #[.int .i64 a, .int .i64 e] 50)) := (Frm.refl _ _).alloc _
            have hg9 := (HT.out.out _ _ HT8.out).2
            generalize w8.alloc (.cells #[.int .i64 a, .int .i64 e] 50) = w9 at *
            obtain ⟨bX, hbX⟩ : ∃ bX, w8.heap.size = bX := ⟨_, rfl⟩
            simp only [hbX] at hX9 hg9 ⊢
            clear hbX
            have hT9 := HT.out.frm _ _ _ HT8.out hf9
            have HF2 := Lib.hid (HT.out.f2 _ _ a hT9 (by omega) hal)
            rw [HQ.out] at HF2
            simp only [spanV, Option.isSome_some, Option.isSome_none] at HF2
            clear hT9 HT8 HF1 hf9
            go_wp2_with fail
            refine HF2.out.mono ?_
            rintro e9 w10 ⟨rfl, hT10, hf10⟩
            have hX10 := hX9.frm hf10 (fun h => by omega)
            have HT10 := Lib.hid hT10
            clear hT10 hf10 hX9 HF2
            go_upto_region 24 with fail
            have hY11 := Blk.new w10 [.int .i64 a, .int .i64 e] 50
            have hX11 := hX10.alloc (.cells #[.int .i64 a, .int .i64 e] 50)
            have hf11 : Frm (fun k => B ≤ k) w10 (w10.alloc (.cells #[.int .i64 a, .int .i64 e] 50)) := (Frm.refl _ _).alloc _
            have hlx := hX10.lt
            generalize w10.alloc (.cells #[.int .i64 a, .int .i64 e] 50) = w11 at *
            obtain ⟨bY, hbY⟩ : ∃ bY, w10.heap.size = bY := ⟨_, rfl⟩
            simp only [hbY] at hY11 hlx ⊢
            clear hbY
            have HT11 := Lib.hid (HT.out.frm _ _ _ HT10.out hf11)
            clear hX10 HT10 hf11
            go_upto_region 25 with fail
            have hZ12 := Blk.new w11 [.int .i64 0, .int .i64 0] 50
            have hX12 := hX11.alloc (.cells #[.int .i64 0, .int .i64 0] 50)
            have hY12 := hY11.alloc (.cells #[.int .i64 0, .int .i64 0] 50)
            have hf12 : Frm (fun k => B ≤ k) w11 (w11.alloc (.cells #[.int .i64 0, .int .i64 0] 50)) := (Frm.refl _ _).alloc _
            have hly := hY11.lt
            generalize w11.alloc (.cells #[.int .i64 0, .int .i64 0] 50) = w12 at *
            obtain ⟨bZ, hbZ⟩ : ∃ bZ, w11.heap.size = bZ := ⟨_, rfl⟩
            simp only [hbZ] at hZ12 hly ⊢
            clear hbZ
            have HT12 := Lib.hid (HT.out.frm _ _ _ HT11.out hf12)
            clear hX11 hY11 HT11 hf12
            have x0 := hX12.cell 0
            have x1 := hX12.cell 1
            have y0 := hY12.cell 0
            have y1 := hY12.cell 1
            have z0 := hZ12.cell 0
            have z1 := hZ12.cell 1
            have fz0 := hZ12.frozen 0
            have fz1 := hZ12.frozen 1
            simp only [List.getElem?_cons_zero, List.getElem?_cons_succ] at x0 x1 y0 y1 z0 z1
            have lx := hX12.lt
            have ly := hY12.lt
            have lz := hZ12.lt
            have nXZ : bX ≠ bZ := by omega
            have nYZ : bY ≠ bZ := by omega
            have nZX : bZ ≠ bX := fun h => nXZ h.symm
            have nZY : bZ ≠ bY := fun h => nYZ h.symm
            rw [show S + 5000 + 5000 + 125000 + 125000 = S + 260000 by omega] at HT12
            have HSET : Hid (∀ u v : Value, T ((w12.setCell ⟨bZ, 0, none⟩ u).setCell ⟨bZ, 1, none⟩ v) (S + 260000)) := Lib.hid fun u v => HT.out.frm _ _ _ HT12.out (((Frm.refl (fun k => B ≤ k) w12).set bZ 0 u (fun _ => by omega)).set bZ 1 v (fun _ => by omega))
            have HNS : Hid (T w12 (S + 260000)) := HT12
            clear HT12 hX12 hY12 hZ12
            have hgu := eqGuard50
            go_wp2_with fail
            go_roundw
            case measure => have := HY.out; simp [intOf] <;> omega
            case rel => exact ⟨a, S + 260000, y, by rw [HQ.out]; rfl, by rw [HQ.out]; rfl, rfl, by have := HY.out; omega, by omega, by omega, HSET.out _ _⟩
  · have HN := Lib.hid (newBad A n cp gr co fo false ins _ w2 HRD.out hr)
    obtain ⟨re, hre⟩ : ∃ re, rightE ins gr co = re := ⟨_, rfl⟩
    rw [hre] at HN
    have HNB : Hid (∀ w', Frm (fun _ => False) w2 w' → Calls Try.prog 12 #[.agg #[.slice A n cp, .int .i64 gr, .int .i64 co, .bool fo], .bool true] w' fun e w'' => e = .returned (.tuple #[.pointer none, .int .i64 re]) ∧ Frm (fun _ => False) w' w'') := Lib.hid fun w' hf => by
      have := newBad A n cp gr co fo true ins _ w' (HRD.out.frm hf (fun _ _ h => h)) hr
      rwa [hre] at this
    rw [hre] at hr
    have d1 : (re != 0) = true := by simpa using hr
    clear hre
    go_wp2_with fail
    refine HN.out.mono ?_
    rintro e w3 ⟨rfl, hf3⟩
    have hP3 := hP2.frm hf3 (fun h => h)
    have hff3 := hff.trans hf3
    clear x0 x1 x2 x3 y0 y1 y2 y3 lx hP2 hff HN
    obtain ⟨x0, x1, x2, x3, y0, y1, y2, y3, lx⟩ := blk4 hP3
    go_wp2_with fail
    refine (HNB.out w3 hf3).mono ?_
    rintro e w4 ⟨rfl, hf4⟩
    have hff4 := hff3.trans hf4
    clear x0 x1 x2 x3 y0 y1 y2 y3 lx hP3 hf3 hf4 hff3
    go_wp2_with fail
    go_ret
    exact ⟨rfl, hff4⟩
end Go.Proofs.Ytoadmpochaeohaa
end
