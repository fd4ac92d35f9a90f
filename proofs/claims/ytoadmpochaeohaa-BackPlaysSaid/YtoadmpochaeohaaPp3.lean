/-
  Reference 14: From, walked: all places up to which a program matches from a place on.
-/
import Derived.Test.YtoadmpochaeohaaPa35
import Derived.Test.YtoadmpochaeohaaPp1
import Derived.Test.YtoadmpochaeohaaPp2
import Derived.Deep.RegionHeld3
section
set_option linter.unusedVariables false
set_option linter.unusedSimpArgs false
set_option maxRecDepth 100000
namespace Go.Proofs.Ytoadmpochaeohaa
open Go.RowKit

/-- What From answers: all places at which a match is come to, or that there are too many. -/
def FromX (K : World → Prop) (nx : RC → List RC) (hit : RC → Bool) (c0 : RC) (gr co : Nat) (bX N most : Nat) (w : World) (e : Ending) (w' : World) : Prop :=
  ((∃ v, e = .returned (.tuple #[v, .bool false]) ∧ ∃ cs : List RC, cs.Nodup ∧ (∀ c ∈ cs, RReach nx c0 c) ∧ most < cs.length) ∨
    (∃ (bO : Nat) (cs : List RC) (outs : List Bool), e = .returned (.tuple #[.slice (some ⟨bO, 0, none⟩) (N + 1) (N + 1), .bool true]) ∧ w.heap.size ≤ bO ∧ Blk w' bO (outs.map BV) 4 ∧ outs.length = N + 1 ∧ cs.length ≤ most ∧ AllR nx hit c0 gr co cs outs ∧ K w')) ∧ Frm (fun q => q = bX) w w'
set_option maxHeartbeats 16000000 in
theorem fromX (bX bR : Nat) (A : Option Addr) (n cp gr co : Nat) (fo : Bool) (ins : List Ins) (line : ByteArray) (at_ most : Nat) (E : Nat → Prop) (sv mv : Value) (w : World) (hP : PlM w E bX A n cp gr co fo ins line bR sv mv) (hr : rightE ins gr co = 0) (hok : ∀ i ∈ ins, i.ok) (hat : at_ ≤ line.size) (hN : line.size ≤ 100000) (hmost : most ≤ 90000) (hE : ¬ E bX) (hXR : bX ≠ bR) :
    Calls Try.prog 36 #[.pointer (some ⟨bX, 0, none⟩), .int .i64 at_, .int .i64 most] w (FromX (fun w' => ∃ sv mv, Blk w' bX [.slice A n cp, .int .i64 gr, .int .i64 co, .bool fo, .string line, .slice (some ⟨bR, 0, none⟩) gr gr, sv, mv] 111) (nextR ins fo line.toList (refsN ins gr)) (hitR ins) (c0R gr co at_) gr co bX line.size most w) := by
  obtain ⟨PO, hPO⟩ : ∃ PO, FromX (fun w' => ∃ sv mv, Blk w' bX [.slice A n cp, .int .i64 gr, .int .i64 co, .bool fo, .string line, .slice (some ⟨bR, 0, none⟩) gr gr, sv, mv] 111) (nextR ins fo line.toList (refsN ins gr)) (hitR ins) (c0R gr co at_) gr co bX line.size most w = PO := ⟨_, rfl⟩
  rw [hPO]
  have HPO := Lib.hid hPO
  clear hPO
  obtain ⟨r1, r2, r3, r4, r5⟩ := right_ok hr
  have hgr : gr ≤ 30 := by omega
  have hco : co ≤ 40 := by omega
  have HR := Lib.hid (⟨hr, hok, r4⟩ : _ ∧ _ ∧ _)
  have HRW0 : Hid (RW ins line.size (c0R gr co at_)) := Lib.hid (c0_RW r4 hat)
  obtain ⟨N1, hN1⟩ : ∃ N1, line.size + 1 = N1 := ⟨_, rfl⟩
  have hmk := mk81 N1 (by omega)
  have hwN : IntKind.i64.wrap ((line.size : Int) + 1) = (N1 : Int) := by rw [IntWalk.i64_in _ (by omega)]; omega
  have u1 := hP.obj.cell 1
  have u2 := hP.obj.cell 2
  have u4 := hP.obj.cell 4
  simp only [List.getElem?_cons_zero, List.getElem?_cons_succ] at u1 u2 u4
  have lu := hP.obj.lt
  have HE := Lib.hid (⟨hE, hXR, hN1⟩ : _ ∧ _ ∧ _)
  have hN1b : N1 ≤ 100001 := by omega
  clear hr hok r1 r2 r3 r4 r5 hE hXR hN1
  go_enter Try.func36, Try.ntmps36
  have a1 := Blk.new w (List.replicate N1 (.bool false)) 4
  have f1 : Frm (fun _ => False) w (w.alloc (.cells (List.replicate N1 (.bool false)).toArray 4)) := (Frm.refl _ _).alloc _
  rw [List.toArray_replicate] at a1 f1
  have hP1 := hP.low.frm f1 (fun h => h) (fun _ _ h => h) (fun h => h)
  have hlX : bX < w.heap.size := lu
  have hlR : bR < w.heap.size := hP.refs.lt
  go_upto_region 2 with fail
  clear u1 u2 u4 lu hP
  generalize w.alloc (.cells (Array.replicate N1 (.bool false)) 4) = w1 at *
  obtain ⟨bO, hbO⟩ : ∃ b, w.heap.size = b := ⟨_, rfl⟩
  simp only [hbO] at a1 hlX hlR hP1 ⊢
  have HBO := Lib.hid hbO
  clear hbO
  have hO1 := hP1.obj
  have u6 := hO1.cell 6
  have u7 := hO1.cell 7
  simp only [List.getElem?_cons_zero, List.getElem?_cons_succ] at u6 u7
  have lu := hO1.lt
  have uf6 := hO1.frozen 6
  have uf7 := hO1.frozen 7
  have hset : Frm (fun q => q = bX) w1 ((w1.setCell ⟨bX, 6, none⟩ (.slice none 0 0)).setCell ⟨bX, 7, none⟩ (.int .i64 0)) := ((Frm.refl (fun q => q = bX) w1).set bX 6 (.slice none 0 0) (fun _ => rfl)).set bX 7 (.int .i64 0) (fun _ => rfl)
  have hO2 := (hO1.setSame 6 (.slice none 0 0)).setSame 7 (.int .i64 0)
  simp only [List.set_cons_zero, List.set_cons_succ] at hO2
  have hRd2 := hP1.rd.frm hset (fun q hq e => HE.out.1 (e ▸ hq.1))
  have hRf2 := hP1.refs.frm hset (fun e => HE.out.2.1 e.symm)
  have hB2 := a1.frm hset (by omega)
  have hf2 : Frm (fun q => q = bX) w _ := (f1.mono (fun _ h _ => h.elim)).trans hset
  have hzs : bO < w1.heap.size := a1.lt
  go_upto_region 3 with fail
  clear u6 u7 lu uf6 uf7 hO1 hP1 a1 f1 hset hmk
  generalize ((w1.setCell ⟨bX, 6, none⟩ (.slice none 0 0)).setCell ⟨bX, 7, none⟩ (.int .i64 0)) = w2 at *
  have u1 := hO2.cell 1
  simp only [List.getElem?_cons_zero, List.getElem?_cons_succ] at u1
  have lu := hO2.lt
  have HB1 := Lib.hid (begunC gr (-1) w2 (by omega))
  go_wp2_with fail
  refine HB1.out.mono ?_
  rintro e w3 ⟨v1, rfl, hs1, hf23⟩
  obtain ⟨B1, d1, rfl⟩ := hs1.form
  have hO3 := hO2.frm hf23 (fun h => h)
  have hRd3 := hRd2.frm hf23 (fun _ _ h => h)
  have hRf3 := hRf2.frm hf23 (fun h => h)
  have hB3 := hB2.frm hf23 (fun h => h)
  have hf3 := hf2.trans (hf23.mono (fun _ h _ => h.elim))
  have hz23 := hf23.size
  have hbO2 : bO < w2.heap.size := hB2.lt
  clear u1 lu hO2 hRd2 hRf2 hB2 hf2 hf23 HB1 hzs
  have hS3 : w3.cell? ⟨bX, 2, none⟩ = some (.int .i64 co) := hO3.cell 2
  have lu := hO3.lt
  have HC0 := Lib.hid (fun w => begunC co 0 w (by omega))
  have HC1 := Lib.hid (fun w => begunC co (-1) w (by omega))
  have HO3 := Lib.hid hO3
  go_upto_region 4 with fail
  go_region_held3 (fun w' => w'.cell? ⟨bX, 2, none⟩ = some (.int .i64 co)) (first | exact hS6 | exact hS5 | exact hS3 | exact (hP6.alloc _).cell 2)
    (first
      | (go_at_call_has 47 (-1 : Int); refine (HC1.out _).mono ?_; rintro e w6 ⟨v6, rfl, hs6, hf56⟩; obtain ⟨B6, d6, rfl⟩ := hs6.form; have hP6 := hP5.frm hf56 (fun h => h); have hS6 := hP6.cell 2; simp only [List.getElem?_cons_zero, List.getElem?_cons_succ] at hS6)
      | (go_at_call_has 47 (0 : Int); refine (HC0.out _).mono ?_; rintro e w5 ⟨v5, rfl, hs5, hf45⟩; obtain ⟨B5, d5, rfl⟩ := hs5.form; have hP5 := HO3.out.drew.frm hf45 (fun h => h); have hS5 := hP5.cell 2; simp only [List.getElem?_cons_zero, List.getElem?_cons_succ] at hS5))
  have hd3 : w3.drew.heap.size = w3.heap.size := rfl
  have hz45 := hf45.size
  have hz56 := hf56.size
  have hBW := Blk.new w6 [.int .i64 0, .int .i64 at_, .slice B1 gr d1, .slice B1 gr d1, .slice B1 gr d1, .slice B5 co d5, .slice B6 co d6] 114
  have hf67 : Frm (fun _ => False) w6 (w6.alloc (.cells #[.int .i64 0, .int .i64 at_, .slice B1 gr d1, .slice B1 gr d1, .slice B1 gr d1, .slice B5 co d5, .slice B6 co d6] 114)) := (Frm.refl _ _).alloc _
  have hr1 := ((((hs1.rd.low.frm (S := fun _ => False) ((Frm.refl _ _).drew) (fun _ _ h => h)).frm hf45 (fun _ _ h => h)).frm hf56 (fun _ _ h => h)).frm hf67 (fun _ _ h => h)).mono (G := fun q => w2.heap.size ≤ q ∧ q < w6.heap.size) (fun q h _ => ⟨h.1, by have := h.2; omega⟩)
  have hr5 := (((hs5.rd.low.frm hf56 (fun _ _ h => h)).frm hf67 (fun _ _ h => h)).mono (G := fun q => w2.heap.size ≤ q ∧ q < w6.heap.size) (fun q h _ => by have h1 : w3.drew.heap.size ≤ q := h.1; have h2 := h.2; exact ⟨by omega, by omega⟩))
  have hr6 := (((hs6.rd.low.frm hf67 (fun _ _ h => h)).mono (G := fun q => w2.heap.size ≤ q ∧ q < w6.heap.size) (fun q h _ => by have h1 : w5.heap.size ≤ q := h.1; exact ⟨by omega, h.2⟩)))
  have hO7 := hP6.alloc (.cells #[.int .i64 0, .int .i64 at_, .slice B1 gr d1, .slice B1 gr d1, .slice B1 gr d1, .slice B5 co d5, .slice B6 co d6] 114)
  have hfq : Frm (fun _ => False) w3 (w6.alloc (.cells #[.int .i64 0, .int .i64 at_, .slice B1 gr d1, .slice B1 gr d1, .slice B1 gr d1, .slice B5 co d5, .slice B6 co d6] 114)) := (((Frm.refl _ _).drew.trans hf45).trans hf56).trans hf67
  have hRd7 := hRd3.frm hfq (fun _ _ h => h)
  have hRf7 := hRf3.frm hfq (fun h => h)
  have hB7 := hB3.frm hfq (fun h => h)
  have hf7 := hf3.trans (hfq.mono (fun _ h _ => h.elim))
  have hz67 := hf67.size
  have hw7 : w6.heap.size < (w6.alloc (.cells #[.int .i64 0, .int .i64 at_, .slice B1 gr d1, .slice B1 gr d1, .slice B1 gr d1, .slice B5 co d5, .slice B6 co d6] 114)).heap.size := hBW.lt
  have hFI : FrI w (fun q => E q ∧ q < bO) bX bR bO A n cp gr co fo ins line most 0 (fun q => w2.heap.size ≤ q ∧ q < w6.heap.size) (fun q => q = w6.heap.size) (fun _ => False) [(⟨B1, B1, B1, B5, B6, d1, d1, d1, d5, d6⟩, c0R gr co at_)] [] (List.replicate N1 false) (.slice (some ⟨w6.heap.size, 0, none⟩) 1 1) (.slice none 0 0) (w6.alloc (.cells #[.int .i64 0, .int .i64 at_, .slice B1 gr d1, .slice B1 gr d1, .slice B1 gr d1, .slice B5 co d5, .slice B6 co d6] 114)) :=
    ⟨⟨hO7, Sl.nil, Nat.le_refl _, by simp, fun s hs => by cases hs⟩, hRd7, hRf7, by simpa [BV] using hB7, by rw [List.length_replicate]; exact HE.out.2.2.symm, .at_ (rest := []) rfl (by simpa [flatC, CA.cells, c0R] using hBW) rfl rfl (Nat.le_refl _) (by simp only [maxLen]; omega), fun p hp => by
      rw [List.mem_singleton] at hp; subst hp
      exact ⟨⟨hr1, hr1, hr1, hr5, hr6⟩, HRW0.out, fun z hz => by have := List.eq_of_mem_replicate hz; omega⟩, fun q hq => ⟨by have := hq.2; omega, by have := hq.2; omega, fun h => h, by have := hq.1; omega, by have := hq.1; omega⟩, fun q hq => ⟨by rw [HBO.out]; exact hq.2, fun e => HE.out.1 (e ▸ hq.1)⟩, fun q hq => ⟨⟨by rw [HBO.out]; omega, by omega⟩, fun h => h, by omega, by omega, by omega⟩, fun q hq => hq.elim, ⟨HE.out.2.1, by omega, by omega, by rw [HBO.out]; exact hlX, by rw [HBO.out]; exact hlR, by rw [HBO.out]; exact Nat.le_refl _⟩, hf7, Nat.zero_le _, by simp⟩
  have HFI := Lib.hid hFI
  clear hFI hr1 hr5 hr6 hO7 hRd7 hRf7 hB7 hf7 hfq hf67 hBW hs1 hs5 hs6 hP5 hP6 hf45 hf56 hS3 hS5 hS6 hO3 hRd3 hRf3 hB3 hf3 HC0 HC1 HO3 lu
  have h0 : ∃ (many : Nat) (K Fw Fs : Nat → Prop) (ps : List (CA × RC)) (ss : List (List UInt8)) (outs : List Bool) (sv : Value) (cs : List RC), FrI w (fun q => E q ∧ q < bO) bX bR bO A n cp gr co fo ins line most many K Fw Fs ps ss outs (.slice (some ⟨w6.heap.size, 0, none⟩) 1 1) sv (w6.alloc (.cells #[.int .i64 0, .int .i64 at_, .slice B1 gr d1, .slice B1 gr d1, .slice B1 gr d1, .slice B5 co d5, .slice B6 co d6] 114)) ∧ Hid (FrY (nextR ins fo line.toList (refsN ins gr)) (hitR ins) (c0R gr co at_) gr co cs (ps.map (·.2)) outs ss many) := ⟨_, _, _, _, _, _, _, _, [], HFI.out, Lib.hid ⟨frp_start (c0_LR gr co at_) (RW_small HRW0.out (right_ok HR.out.1).1 (by omega)), TbX.nil, rfl⟩⟩
  have H0 := Lib.hid h0
  clear h0 HFI
  go_wp2_with fail
  go_loopw [10] (fun v wr => ∃ (many : Nat) (K Fw Fs : Nat → Prop) (ps : List (CA × RC)) (ss : List (List UInt8)) (outs : List Bool) (sv : Value) (cs : List RC), FrI w (fun q => E q ∧ q < bO) bX bR bO A n cp gr co fo ins line most many K Fw Fs ps ss outs v sv wr ∧ Hid (FrY (nextR ins fo line.toList (refsN ins gr)) (hitR ins) (c0R gr co at_) gr co cs (ps.map (·.2)) outs ss many)) (fun v wx => 3 * (most + 1 - manyOf bX wx) + lenOf v)
  case atStart => exact H0.out
  case round =>
    clear H0
    obtain ⟨many, K, Fw, Fs, ps, ss, outs, sv2, cs, hI, HY⟩ := hrel
    obtain ⟨Av, cv, hv⟩ := hI.sl.form
    subst hv
    have hmo : manyOf bX wr = many := by unfold manyOf; rw [hI.tb.obj.cell 7]; simp
    rcases List.eq_nil_or_concat ps with hps | ⟨ps', p, hps⟩
    · subst hps
      have hf := hI.frm
      have HEND : Hid (FromX (fun w' => ∃ sv mv, Blk w' bX [.slice A n cp, .int .i64 gr, .int .i64 co, .bool fo, .string line, .slice (some ⟨bR, 0, none⟩) gr gr, sv, mv] 111) (nextR ins fo line.toList (refsN ins gr)) (hitR ins) (c0R gr co at_) gr co bX line.size most w (.returned (.tuple #[.slice (some ⟨bO, 0, none⟩) N1 N1, .bool true])) wr) := Lib.hid
        ⟨.inr ⟨bO, cs, outs, by rw [HE.out.2.2], by rw [HBO.out]; exact Nat.le_refl _, hI.out, hI.olen, by rw [← HY.out.n]; exact hI.le, ⟨HY.out.p⟩, ⟨_, _, hI.tb.obj⟩⟩, hf⟩
      clear hI hmo hf
      go_wp2_with fail
      rw [← HPO.out]
      exact HEND.out
    · rw [List.concat_eq_append] at hps
      subst hps
      obtain ⟨m, hm⟩ : ∃ m, ps'.length = m := ⟨_, rfl⟩
      obtain ⟨m1, hm1⟩ : ∃ m1, m + 1 = m1 := ⟨_, rfl⟩
      have hpl : (ps' ++ [p]).length = m1 := by simp; omega
      have hsl := hI.sl
      rw [hpl] at hsl ⊢
      obtain ⟨bw, hAv, hFbw, hbwl, cur, hcur, hcx⟩ := hsl.head (by omega)
      subst hAv
      have hcap := hsl.rd.cap
      have hmax : m1 ≤ 9223372036854775807 := by
        have := hsl.len
        cases hsl with
        | at_ hF hb hx hr hn hm2 => simp only [maxLen] at hm2; omega
      have hpm : (ps' ++ [p])[m]? = some p := by rw [List.getElem?_append_right (by omega), hm, Nat.sub_self]; rfl
      obtain ⟨pb, po, hA2, hpb, hpc⟩ := hsl.rd.conf m p hpm (by omega)
      injection hA2 with hA2
      injection hA2 with hA3 hA4
      subst hA3 hA4
      obtain ⟨hcf, hrw, htu⟩ := hI.cf p (by simp)
      obtain ⟨⟨e1, e2, e3, e4, e5, g1, g2, g3, g4, g5⟩, ⟨epc, eat, eb, ef, et, etu, el⟩⟩ := p
      have i0 := hpc 0 _ rfl
      have i1 := hpc 1 _ rfl
      have i2 := hpc 2 _ rfl
      have i3 := hpc 3 _ rfl
      have i4 := hpc 4 _ rfl
      have i5 := hpc 5 _ rfl
      have i6 := hpc 6 _ rfl
      rw [Nat.add_zero, Nat.zero_add] at i0
      rw [Nat.zero_add] at i1 i2 i3 i4 i5 i6
      have hwm : IntKind.i64.wrap ((m1 : Int) - 1) = (m : Int) := by rw [IntWalk.i64_in _ (by omega)]; omega
      have hmm1 : m < m1 := by omega
      have hmc : m ≤ cv := by omega
      have hm1p : decide ((0 : Int) < (m1 : Int)) = true := decide_eq_true (by omega)
      have hm1n : decide (0 < m1) = true := decide_eq_true (by omega)
      have HI := Lib.hid (⟨hI, hmo, hpl, hm, hm1⟩ : _ ∧ _ ∧ _ ∧ _ ∧ _)
      have HCF := Lib.hid (⟨hcf, hrw, htu⟩ : _ ∧ _ ∧ _)
      have hC := Blk.new wr [.int .i64 epc, .int .i64 eat, .slice e1 gr g1, .slice e2 gr g2, .slice e3 gr g3, .slice e4 co g4, .slice e5 co g5] 114
      have hfc : Frm (fun _ => False) wr (wr.alloc (.cells #[.int .i64 epc, .int .i64 eat, .slice e1 gr g1, .slice e2 gr g2, .slice e3 gr g3, .slice e4 co g4, .slice e5 co g5] 114)) := (Frm.refl _ _).alloc _
      clear hI hmo hpl hm hm1 hcf hrw htu hpc hcur hcx hsl hpm
      have hlXr : bX < wr.heap.size := HI.out.1.tb.obj.lt
      go_upto_region 8 with fail
      clear i0 i1 i2 i3 i4 i5 i6 hwm hm1p hm1n
      generalize wr.alloc (.cells #[.int .i64 epc, .int .i64 eat, .slice e1 gr g1, .slice e2 gr g2, .slice e3 gr g3, .slice e4 co g4, .slice e5 co g5] 114) = w7 at *
      obtain ⟨b11, hb11⟩ : ∃ b, wr.heap.size = b := ⟨_, rfl⟩
      simp only [hb11] at hC hpb hbwl hlXr ⊢
      have HB11 := Lib.hid hb11
      clear hb11
      have hn11 : b11 ≠ bX := by omega
      have HTX := Lib.hid (textC ⟨e1, e2, e3, e4, e5, g1, g2, g3, g4, g5⟩ gr co ⟨epc, eat, eb, ef, et, etu, el⟩ K w7.drew ((HCF.out.1.frm hfc (fun _ _ h => h)).frm (S := fun _ => False) ((Frm.refl _ _).drew) (fun _ _ h => h)) (RW_small HCF.out.2.1 (right_ok HR.out.1).1 (by omega)) hgr hco)
      obtain ⟨tx, htx⟩ : ∃ tx, textR ⟨epc, eat, eb, ef, et, etu, el⟩ = tx := ⟨_, rfl⟩
      rw [htx] at HTX
      have htl : tx.length ≤ 1000000 := by rw [← htx, nums_len HCF.out.1]; omega
      have htn : tx ≠ [] := by rw [← htx]; intro h; have := nums_len HCF.out.1; rw [h] at this; simp at this; omega
      have HTXE := Lib.hid htx
      have HAD : Hid (∀ w8, Frm (fun _ => False) wr w8 → Calls Try.prog 48 #[.pointer (some ⟨bX, 6, none⟩), .string ⟨tx.toArray⟩] w8 fun e w' => ∃ (b : Bool) (ss' : List (List UInt8)) (v' : Value), e = .returned (.bool b) ∧ TbM w' (fun q => Fs q ∨ w8.heap.size ≤ q) bX (.slice A n cp) (.int .i64 gr) (.int .i64 co) (.bool fo) (.string line) (.slice (some ⟨bR, 0, none⟩) gr gr) ss' v' (if b then many + 1 else many) ∧ Hid (TbX ss' (if b then tx :: cs.map textR else cs.map textR) ∧ b = decide (tx ∉ cs.map textR)) ∧ Frm (fun q => q = bX ∨ Fs q) w8 w') := Lib.hid fun w8 hf =>
        (addX bX _ _ _ _ _ _ ss sv2 many tx Fs w8 (HI.out.1.tb.frm hf (fun h => h) (fun _ _ h => h)) (by have := HI.out.1.le; omega) htl (fun h => (HI.out.1.hS bX h).2.1 rfl) _ HY.out.x htn).mono (by rintro e w' ⟨b, ss', v', k1, k2, k3, k4⟩; exact ⟨b, ss', v', k1, k2, Lib.hid k3, k4⟩)
      have HC := Lib.hid hC
      obtain ⟨⟨x0, x1, x2, x3, x4, x5, x6⟩, lx⟩ := blk7 hC
      go_region_held3 (fun w' => w'.cell? ⟨b11, 0, none⟩ = some (.int .i64 epc) ∧ w'.cell? ⟨b11, 1, none⟩ = some (.int .i64 eat) ∧ w'.cell? ⟨b11, 2, none⟩ = some (.slice e1 gr g1) ∧ w'.cell? ⟨b11, 3, none⟩ = some (.slice e2 gr g2) ∧ w'.cell? ⟨b11, 4, none⟩ = some (.slice e3 gr g3) ∧ w'.cell? ⟨b11, 5, none⟩ = some (.slice e4 co g4) ∧ w'.cell? ⟨b11, 6, none⟩ = some (.slice e5 co g5))
        (first | exact S9 | exact S8 | exact ⟨x0, x1, x2, x3, x4, x5, x6⟩)
        (first
          | (go_at_call 49; refine HTX.out.mono ?_; rintro e w8 ⟨rfl, hf78⟩; have hC8 := HC.out.drew.frm hf78 (fun h => h); have S8 := (blk7 hC8).1)
          | (go_at_call 48; refine (HAD.out w8 ((hfc.trans (Frm.refl _ _).drew).trans hf78)).mono ?_; rintro e w9 ⟨fresh, ss', v', rfl, hTb, hTbx, hf89⟩; have hC9 := hC8.frm hf89 (by rintro (h | h); exact hn11 h; have := (HI.out.1.hS b11 h).1.2; have := HB11.out; omega); have S9 := (blk7 hC9).1))
      have hfr8 : Frm (fun _ => False) wr w8 := (hfc.trans (Frm.refl _ _).drew).trans hf78
      have hz8 := hfr8.size
      have hz9 := hf89.size
      have hwr : w.heap.size ≤ wr.heap.size := HI.out.1.frm.size
      obtain ⟨many2, hmany2⟩ : ∃ m2, (if fresh then many + 1 else many) = m2 := ⟨_, rfl⟩
      rw [hmany2] at hTb
      have hm2b : many ≤ many2 ∧ many2 ≤ many + 1 := by rw [← hmany2]; split <;> omega
      have hbOr : bO < wr.heap.size := HI.out.1.out.lt
      have hI9 : many2 ≤ most → FrI w (fun q => E q ∧ q < bO) bX bR bO A n cp gr co fo ins line most many2 K Fw (fun q => (Fs q ∨ w8.heap.size ≤ q) ∧ q < w9.heap.size) ps' ss' outs (.slice (some ⟨bw, 0, none⟩) m cv) v' w9 := fun hle =>
        ⟨⟨hTb.obj, hTb.sl.low, hTb.cnt, hTb.len, hTb.sz⟩,
         (HI.out.1.rd.frm hfr8 (fun _ _ h => h)).frm hf89 (by
          rintro q hq (h | h)
          · exact (HI.out.1.hE q hq).2 h
          · have := (HI.out.1.hE q hq).1; have := (HI.out.1.hS q h).1.1; omega),
         (HI.out.1.refs.frm hfr8 (fun h => h)).frm hf89 (by
          rintro (h | h)
          · exact HE.out.2.1 h.symm
          · exact (HI.out.1.hS _ h).2.2.1 rfl),
         (HI.out.1.out.frm hfr8 (fun h => h)).frm hf89 (by
          rintro (h | h)
          · exact HI.out.1.hb.2.1 h.symm
          · exact (HI.out.1.hS _ h).2.2.2 rfl),
         HI.out.1.olen,
         (by
          have h1 := (HI.out.1.sl.frm hfr8 (fun _ _ h => h)).frm hf89 (by
            rintro q hq (h | h)
            · exact (HI.out.1.hW q hq).2.2.1 h
            · exact (HI.out.1.hW q hq).2.1 h)
          rw [HI.out.2.2.1] at h1
          have h2 := h1.cut (k := m) (by omega)
          have e : (flatC gr co (ps' ++ [(⟨e1, e2, e3, e4, e5, g1, g2, g3, g4, g5⟩, ⟨epc, eat, eb, ef, et, etu, el⟩)])).take (m * 7) = flatC gr co ps' := by
            unfold flatC
            rw [List.flatMap_append]
            exact List.take_left' (by rw [← HI.out.2.2.2.1]; exact flatC_len gr co ps')
          rw [e] at h2
          rw [HI.out.2.2.2.1]
          exact h2),
         (fun p hp => by
          obtain ⟨q1, q2, q3⟩ := HI.out.1.cf p (List.mem_append.2 (.inl hp))
          exact ⟨(q1.frm hfr8 (fun _ _ h => h)).frm hf89 (by
            rintro q hq (h | h)
            · exact (HI.out.1.hK q hq).2.2.2.1 h
            · exact (HI.out.1.hK q hq).2.2.1 h), q2, fun z hz => by have := q3 z hz; omega⟩),
         (fun q hq => by
          obtain ⟨k1, k2, k3, k4, k5⟩ := HI.out.1.hK q hq
          exact ⟨by omega, k2, by rintro ⟨h | h, _⟩; exact k3 h; omega, k4, k5⟩),
         HI.out.1.hE,
         (fun q hq => by
          obtain ⟨k1, k2, k3⟩ := HI.out.1.hW q hq
          exact ⟨⟨k1.1, by omega⟩, by rintro ⟨h | h, _⟩; exact k2 h; omega, k3⟩),
         (fun q hq => by
          obtain ⟨h | h, h2⟩ := hq
          · obtain ⟨k1, k2, k3, k4⟩ := HI.out.1.hS q h
            exact ⟨⟨k1.1, h2⟩, k2, k3, k4⟩
          · have := HI.out.1.hb
            exact ⟨⟨by omega, h2⟩, by omega, by omega, by omega⟩),
         HI.out.1.hb,
         (HI.out.1.frm.trans (hfr8.mono (fun _ h _ => h.elim))).then hf89 (by
          rintro q (h | h) hl
          · exact h
          · have := (HI.out.1.hS q h).1.1; omega),
         hle, by have := HI.out.1.few; have h3 := HI.out.2.2.1; have h4 := HI.out.2.2.2.1; omega⟩
      have HI9 := Lib.hid hI9
      have HTBX := hTbx
      clear hTbx htn
      have hfw9 : Frm (fun q => q = bX) w w9 := (HI.out.1.frm.trans (hfr8.mono (fun _ h _ => h.elim))).then hf89 (by
          rintro q (h | h) hl
          · exact h
          · have := (HI.out.1.hS q h).1.1; omega)
      have hO9 := hTb.obj
      clear hI9 hTb x0 x1 x2 x3 x4 x5 x6 lx HAD HTX hfr8
      have HP : Hid (FrP (nextR ins fo line.toList (refsN ins gr)) (hitR ins) (c0R gr co at_) gr co cs (ps'.map (·.2) ++ [⟨epc, eat, eb, ef, et, etu, el⟩]) outs) := Lib.hid (by have := HY.out.p; rw [List.map_append] at this; exact this)
      cases fresh with
      | false =>
        have HY2 : Hid (FrY (nextR ins fo line.toList (refsN ins gr)) (hitR ins) (c0R gr co at_) gr co cs (ps'.map (·.2)) outs ss' many) := by
          obtain ⟨g1, g2⟩ := HTBX.out
          have g3 : tx ∈ cs.map textR := by simpa using g2
          exact Lib.hid ⟨frp_seen HP.out (by rw [HTXE.out]; exact g3), by rw [if_neg (by simp)] at g1; exact g1, HY.out.n⟩
        have hme : many2 = many := by rw [← hmany2]; rfl
        subst hme
        have HRL : Hid (∃ (many : Nat) (K Fw Fs : Nat → Prop) (ps : List (CA × RC)) (ss : List (List UInt8)) (outs : List Bool) (sv : Value) (cs : List RC), FrI w (fun q => E q ∧ q < bO) bX bR bO A n cp gr co fo ins line most many K Fw Fs ps ss outs (.slice (some ⟨bw, 0, none⟩) m cv) sv w9 ∧ Hid (FrY (nextR ins fo line.toList (refsN ins gr)) (hitR ins) (c0R gr co at_) gr co cs (ps.map (·.2)) outs ss many)) := Lib.hid ⟨_, _, _, _, _, _, _, _, _, HI9.out HI.out.1.le, HY2⟩
        have hmo9 : manyOf bX w9 = many2 := by unfold manyOf; rw [hO9.cell 7]; simp
        have HMS : Hid (3 * (most + 1 - manyOf bX w9) + lenOf (.slice (some ⟨bw, 0, none⟩) m cv) < 3 * (most + 1 - manyOf bX wr) + lenOf (.slice (some ⟨bw, 0, none⟩) m1 cv)) := Lib.hid (by rw [hmo9, HI.out.2.1]; simp only [lenOf]; omega)
        clear hO9 hfw9 hmo9
        go_wp2_with fail
        go_roundw
        case measure => exact HMS.out
        case rel => exact HRL.out
      | true =>
        have HME : Hid (many2 = many + 1) := Lib.hid (by rw [← hmany2]; rfl)
        have HNO : Hid (textR ⟨epc, eat, eb, ef, et, etu, el⟩ ∉ cs.map textR ∧ TbX ss' (tx :: cs.map textR)) := by
          obtain ⟨g1, g2⟩ := HTBX.out
          exact Lib.hid ⟨by rw [HTXE.out]; simpa using g2, by rw [if_pos rfl] at g1; exact g1⟩
        clear hmany2
        have u7 := hO9.cell 7
        have u0 := hO9.cell 0
        simp only [List.getElem?_cons_zero, List.getElem?_cons_succ] at u7 u0
        have lu := hO9.lt
        obtain ⟨⟨x0, x1, x2, x3, x4, x5, x6⟩, lx⟩ := blk7 hC9
        by_cases hbig : most < many2
        · have d1 : decide ((most : Int) < (many2 : Int)) = true := decide_eq_true (by omega)
          have d1n : decide (most < many2) = true := decide_eq_true hbig
          have HFR : Hid (∃ cs : List RC, cs.Nodup ∧ (∀ c ∈ cs, RReach (nextR ins fo line.toList (refsN ins gr)) (c0R gr co at_) c) ∧ most < cs.length) := by
            obtain ⟨g1, g2⟩ := frp_fresh HP.out HNO.out.1
            exact Lib.hid ⟨_, g1, g2, by rw [List.length_cons, ← HY.out.n, ← HME.out]; exact hbig⟩
          clear hbig
          go_wp2_with fail
          rw [← HPO.out]
          exact ⟨.inl ⟨_, rfl, HFR.out⟩, hfw9⟩
        · have d1 : decide ((most : Int) < (many2 : Int)) = false := decide_eq_false (by omega)
          have d1n : decide (most < many2) = false := decide_eq_false hbig
          have hI := HI9.out (by omega)
          have HJ := Lib.hid hI
          obtain ⟨ii, hii⟩ : ∃ i, ins[epc]? = some i := ⟨_, List.getElem?_eq_getElem HCF.out.2.1.pc⟩
          obtain ⟨qb, qo, hAq, hqb, hqi⟩ := hI.rd.ins epc ii hii
          subst hAq
          have y0 := hqi 0 _ (by rfl : ii.cells[0]? = some (.int .i64 ii.op))
          rw [Nat.add_zero] at y0
          have hep : epc < n := by have h1 := HCF.out.2.1.pc; have h2 := hI.rd.len; rw [flatI_len] at h2; simp only at h1; omega
          obtain ⟨im, him⟩ : ∃ im, (ii.op == 11) = im := ⟨_, rfl⟩
          have HIM : Hid (hitR ins ⟨epc, eat, eb, ef, et, etu, el⟩ = im) := Lib.hid (by unfold hitR; simp only [hii]; exact him)
          have hI2 := Lib.hid hI
          clear hI hqi hbig HI9
          have x0' := x0
          go_wp2_with fail
          go_quiet (fail)
          have hdr : Frm (fun _ => False) w9 (w9.drewN nq) := (Frm.refl _ w9).drewN nq
          have hC10 := hC9.frm hdr (fun h => h)
          have hB10 := HJ.out.out.frm hdr (fun h => h)
          clear x0 x0' x1 x2 x3 x4 x5 x6 lx u0 u7 lu y0 hqb hC9 hO9
          have HDR := Lib.hid hdr
          clear hdr
          generalize hw10 : w9.drewN nq = w10 at *
          clear hw10
          obtain ⟨⟨x0, x1, x2, x3, x4, x5, x6⟩, lx⟩ := blk7 hC10
          have HOL := Lib.hid HJ.out.olen
          have heat : eat ≤ line.size := HCF.out.2.1.at_
          go_upto_if 87 with (fail)
          go_cut [] from 88 to 91 (fun wx => ∃ outs' : List Bool, outs'.length = line.size + 1 ∧ Blk wx bO (outs'.map BV) 4 ∧ Frm (fun q => q = bO) w10 wx ∧ Hid (∀ a, outs'[a]? = some true ↔ (outs[a]? = some true ∨ (im = true ∧ eat = a))))
          case first =>
            cases im with
            | false =>
              go_wp2_with fail
              go_meet
              exact ⟨outs, HOL.out, hB10, Frm.refl _ _, Lib.hid outs_same⟩
            | true =>
              obtain ⟨ob, hob⟩ : ∃ ob, outs[eat]? = some ob := ⟨_, List.getElem?_eq_getElem (by have := HOL.out; omega)⟩
              have c0 : w10.cell? ⟨bO, eat, none⟩ = some (.bool ob) := by rw [hB10.cell, List.getElem?_map, hob]; rfl
              have c1 := hB10.frozen eat
              have c2 := hB10.lt
              have heN : eat < N1 := by have := HE.out.2.2; omega
              have hs2 := hB10.setSame eat (BV true)
              rw [← List.map_set] at hs2
              have HS2 : Hid (∃ outs' : List Bool, outs'.length = line.size + 1 ∧ Blk (w10.setCell ⟨bO, eat, none⟩ (.bool true)) bO (outs'.map BV) 4 ∧ Frm (fun q => q = bO) w10 (w10.setCell ⟨bO, eat, none⟩ (.bool true)) ∧ Hid (∀ a, outs'[a]? = some true ↔ (outs[a]? = some true ∨ (true = true ∧ eat = a)))) := Lib.hid ⟨outs.set eat true, by rw [List.length_set]; exact HOL.out, hs2, (Frm.refl _ _).set bO eat _ (fun _ => rfl), Lib.hid (outs_set (by have := HOL.out; omega))⟩
              clear hs2 hob hB10
              go_wp2_with fail
              go_meet
              exact HS2.out
          case rest =>
            obtain ⟨outs', hol', hB11, hf1011, HO2⟩ := hcut
            obtain ⟨w11, hwn⟩ : ∃ w, w = wc := ⟨_, rfl⟩
            subst hwn
            clear x0 x1 x2 x3 x4 x5 x6 lx hB10
            have hf911 : Frm (fun q => q = bO) w9 w11 := (HDR.out.mono (fun _ h _ => h.elim)).trans hf1011
            have hz911 := hf911.size
            have hJ := HJ.out
            have hO11 := hJ.tb.obj.frm hf911 hJ.hb.2.1
            have hbOw := hJ.hb.2.2.2.2.2
            have hRd11 := hJ.rd.frm hf911 (fun q hq e => by have := (hJ.hE q hq).1; have h2 : q = bO := e; omega)
            have hRf11 := hJ.refs.frm hf911 hJ.hb.2.2.1
            have hSl11 := hJ.sl.frm hf911 (fun q hq e => (hJ.hW q hq).2.2.2.2 e)
            have hTs11 := hJ.tb.sl.frm hf911 (fun q hq e => (hJ.hS q hq).2.2.2 e)
            have hCf11 : ∀ p ∈ ps', CRd w11 K p.1 gr co p.2 ∧ RW ins line.size p.2 ∧ ∀ z ∈ p.2.turns, z ≤ many2 := fun p hp => ⟨(hJ.cf p hp).1.frm hf911 (fun q hq e => (hJ.hK q hq).2.2.2.2 e), (hJ.cf p hp).2⟩
            have hC11 := hC10.frm hf1011 (by have := HJ.out.out.lt; have := HB11.out; omega)
            have hKc := (((HCF.out.1.frm hfc (fun _ _ h => h)).frm (S := fun _ => False) ((Frm.refl _ _).drew) (fun _ _ h => h)).frm hf78 (fun _ _ h => h)).frm hf89 (by
              rintro q hq (h | h)
              · exact (HI.out.1.hK q hq).2.2.2.1 h
              · exact (HI.out.1.hK q hq).2.2.1 h)
            have hKc11 := hKc.frm hf911 (fun q hq e => (hJ.hK q hq).2.2.2.2 e)
            have hPl11 : PlM w11 (fun q => E q ∧ q < bO) bX (some ⟨qb, qo, none⟩) n cp gr co fo ins line bR v' (.int .i64 many2) := ⟨hO11, hRd11, hRf11⟩
            obtain ⟨nx, hnx⟩ : ∃ nx, nextR ins fo line.toList (refsN ins gr) ⟨epc, eat, eb, ef, et, etu, el⟩ = nx := ⟨_, rfl⟩
            have hnl : nx.length ≤ 2 := by rw [← hnx]; exact next_len _ _ _ _ _
            have hlb2 : line.toList.length = line.size := by rw [ByteArray.toList_eq]; simp
            have hkid : ∀ d ∈ nx, RW ins line.size d ∧ ∀ z ∈ d.turns, z ≤ many2 := fun d hd => by
              obtain ⟨q1, q2, q3, q4, q5⟩ := right_ok HR.out.1
              have hRW0 := HCF.out.2.1
              rw [← hlb2] at hRW0
              obtain ⟨k1, k2⟩ := next_RW (gr := (gr : Int)) (co := (co : Int)) (M := (many : Int)) (fun k i hi => fine_ok (q5 k i hi)) hRW0 HCF.out.2.2 (by have := HI.out.1.le; omega) (by rw [hnx]; exact hd)
              rw [hlb2] at k1
              exact ⟨k1, fun z hz => by have := k2 z hz; have := HME.out; omega⟩
            have HNC := Lib.hid (nextC bX (some ⟨qb, qo, none⟩) n cp gr co fo ins line bR _ _ ⟨e1, e2, e3, e4, e5, g1, g2, g3, g4, g5⟩ ⟨epc, eat, eb, ef, et, etu, el⟩ _ _ w11 hPl11 hKc11 HCF.out.2.1 HR.out.1 HR.out.2.1 (by omega))
            rw [hnx] at HNC
            have HYN : Hid (FrY (nextR ins fo line.toList (refsN ins gr)) (hitR ins) (c0R gr co at_) gr co (⟨epc, eat, eb, ef, et, etu, el⟩ :: cs) (ps'.map (·.2) ++ nx) outs' ss' many2) := by
              have g := frp_new (outs' := outs') HP.out HNO.out.1 (fun d hd => ⟨next_LR (HP.out.good _ (.inr (by simp))).1.1 hd, RW_small (hkid d (by rw [← hnx]; exact hd)).1 (right_ok HR.out.1).1 (by omega)⟩) (fun a => by rw [HIM.out]; exact HO2.out a)
              rw [hnx] at g
              exact Lib.hid ⟨g, by rw [List.map_cons, HTXE.out]; exact HNO.out.2, by rw [List.length_cons, ← HY.out.n]; exact HME.out⟩
            have HG := Lib.hid (⟨hO11, hRd11, hRf11, hSl11, hTs11, hCf11, hkid⟩ : _ ∧ _ ∧ _ ∧ _ ∧ _ ∧ _ ∧ _)
            obtain ⟨⟨x0, x1, x2, x3, x4, x5, x6⟩, lx⟩ := blk7 hC11
            clear hJ hO11 hRd11 hRf11 hSl11 hTs11 hCf11 hkid hKc hKc11 hPl11 hnx hC10 hC11
            go_wp2_with fail
            refine HNC.out.mono ?_
            rintro e w12 ⟨v12, rfl, ⟨qs, hqs, hS12, hCq⟩, hf1112⟩
            obtain ⟨A12, c12, rfl⟩ := hS12.form
            have hz1112 := hf1112.size
            have hSl12 := HG.out.2.2.2.1.frm hf1112 (fun _ _ h => h)
            rw [HI.out.2.2.2.1] at hSl12
            have hfew := HJ.out.few
            rw [HI.out.2.2.2.1] at hfew
            have hm2m := HJ.out.le
            have hm2f : m ≤ 2 * many := by have := HI.out.1.few; have := HI.out.2.2; omega
            clear x0 x1 x2 x3 x4 x5 x6 lx HNC
            go_wp2_with (with_reducible refine stop_at 96 rfl ?_)
            unfold Stop
            refine op_appendRd rfl _ _ _ rfl 114 _ 7 136 Try.underlying115 infoC rfl (by omega) hSl12.low rfl hS12.rd rfl (flatC_one gr co qs) (by simp only [maxLen]; omega) (by omega) ?_
            intro v13 w13 hf1213 hs13
            have hz1213 := hf1213.size
            have hql : qs.length = nx.length := by rw [← hqs]; simp
            have HQS : Hid (qs.map (·.2) = nx) := Lib.hid hqs
            have hxl : (ps' ++ qs).length = m + nx.length := by rw [List.length_append, hql, HI.out.2.2.2.1]
            have hJ := HJ.out
            obtain ⟨hb1, hb2, hb3, hb4, hb5, hb6⟩ := hJ.hb
            have hbO9 : bO < w9.heap.size := hJ.out.lt
            have hfz : Frm (fun q => q = bX) w w13 := ((hJ.frm.then hf911 (fun q hq hl => by have h2 : q = bO := hq; omega)).trans (hf1112.mono (fun _ h _ => h.elim))).then hf1213 (fun q hq hl => by have := (hJ.hW q hq.1).1.1; omega)
            have hO13 := (HG.out.1.frm hf1112 (fun h => h)).frm hf1213 (fun h => (hJ.hW _ h.1).2.2.1 rfl)
            have hRL : FrI w (fun q => E q ∧ q < bO) bX bR bO (some ⟨qb, qo, none⟩) n cp gr co fo ins line most many2 (fun q => K q ∨ (w11.heap.size ≤ q ∧ q < w12.heap.size)) (fun q => ((Fw q ∧ q < w12.heap.size) ∨ w12.heap.size ≤ q) ∧ q < w13.heap.size) (fun q => (Fs q ∨ w8.heap.size ≤ q) ∧ q < w9.heap.size) (ps' ++ qs) ss' outs' v13 v' w13 :=
              ⟨⟨hO13, (HG.out.2.2.2.2.1.frm hf1112 (fun _ _ h => h)).frm hf1213 (fun q hq h => (hJ.hW q h.1).2.1 hq), hJ.tb.cnt, hJ.tb.len, hJ.tb.sz⟩,
               (HG.out.2.1.frm hf1112 (fun _ _ h => h)).frm hf1213 (fun q hq h => by have := (hJ.hE q hq).1; have := (hJ.hW q h.1).1.1; omega),
               (HG.out.2.2.1.frm hf1112 (fun h => h)).frm hf1213 (fun h => (hJ.hW _ h.1).2.2.2.1 rfl),
               (hB11.frm hf1112 (fun h => h)).frm hf1213 (fun h => (hJ.hW _ h.1).2.2.2.2 rfl),
               hol',
               (by
                rw [hxl]
                have e : flatC gr co (ps' ++ qs) = flatC gr co ps' ++ flatC gr co qs := by unfold flatC; rw [List.flatMap_append]
                rw [e]
                exact hs13.low),
               (fun p hp => by
                rcases List.mem_append.1 hp with hp | hp
                · obtain ⟨k1, k2⟩ := HG.out.2.2.2.2.2.1 p hp
                  exact ⟨((k1.frm hf1112 (fun _ _ h => h)).frm hf1213 (fun q hq h => (hJ.hK q hq).2.1 h.1)).mono (fun q h _ => .inl h), k2⟩
                · refine ⟨((hCq p hp).low.frm hf1213 (fun q hq h => by
                    rcases hq.1 with hk | hk
                    · exact (hJ.hK q hk).2.1 h.1
                    · have := (hJ.hW q h.1).1.2; omega)).mono (fun q h _ => ?_), HG.out.2.2.2.2.2.2 p.2 (by rw [← hqs]; exact List.mem_map.2 ⟨p, hp, rfl⟩)⟩
                  rcases h.1 with hk | hk
                  · exact .inl hk
                  · exact .inr ⟨hk, h.2⟩),
               (fun q hq => by
                rcases hq with hk | hk
                · obtain ⟨k1, k2, k3, k4, k5⟩ := hJ.hK q hk
                  exact ⟨by omega, by rintro ⟨h | h, _⟩; exact k2 h.1; omega, k3, k4, k5⟩
                · exact ⟨by omega, by rintro ⟨h | h, _⟩; have := (hJ.hW q h.1).1.2; omega; omega, by rintro ⟨_, h⟩; omega, by omega, by omega⟩),
               hJ.hE,
               (fun q hq => by
                obtain ⟨h | h, h2⟩ := hq
                · obtain ⟨k1, k2, k3⟩ := hJ.hW q h.1
                  exact ⟨⟨k1.1, h2⟩, k2, k3⟩
                · exact ⟨⟨by omega, h2⟩, by rintro ⟨_, h3⟩; omega, by omega, by omega, by omega⟩),
               (fun q hq => by
                obtain ⟨k1, k2⟩ := hJ.hS q hq
                exact ⟨⟨k1.1, by omega⟩, k2⟩),
               ⟨hb1, hb2, hb3, hb4, hb5, hb6⟩, hfz, hJ.le, by rw [hxl]; have := HME.out; omega⟩
            obtain ⟨A13, c13, rfl⟩ := hs13.form
            have HRL : Hid (∃ (many : Nat) (K Fw Fs : Nat → Prop) (ps : List (CA × RC)) (ss : List (List UInt8)) (outs : List Bool) (sv : Value) (cs : List RC), FrI w (fun q => E q ∧ q < bO) bX bR bO (some ⟨qb, qo, none⟩) n cp gr co fo ins line most many K Fw Fs ps ss outs (.slice A13 (m + nx.length) c13) sv w13 ∧ Hid (FrY (nextR ins fo line.toList (refsN ins gr)) (hitR ins) (c0R gr co at_) gr co cs (ps.map (·.2)) outs ss many)) := Lib.hid ⟨_, _, _, _, _, _, _, _, _, hRL, Lib.hid (by rw [List.map_append, HQS.out]; exact HYN.out)⟩
            have hmo9 : manyOf bX w13 = many2 := by unfold manyOf; rw [hO13.cell 7]; simp
            have HMS : Hid (3 * (most + 1 - manyOf bX w13) + lenOf (.slice A13 (m + nx.length) c13) < 3 * (most + 1 - manyOf bX wr) + lenOf (.slice (some ⟨bw, 0, none⟩) m1 cv)) := Lib.hid (by rw [hmo9, HI.out.2.1]; simp only [lenOf]; have := HME.out; omega)
            clear hJ hRL hO13 hfz hs13 hf1213 hf1112 hS12 hCq hSl12 hqs hB11 hmo9
            go_wp2_with fail
            go_roundw
            case measure => exact HMS.out
            case rel => exact HRL.out
end Go.Proofs.Ytoadmpochaeohaa
end
