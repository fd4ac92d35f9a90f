/-
  Reference 14: New.
-/
import Derived.Test.YtoadmpochaeohaaPa22
import Derived.Test.YtoadmpochaeohaaPa29
import Derived.Deep.RegionHeld3
import Derived.Test.YtoadmpochaeohaaPa3
section
set_option linter.unusedVariables false
set_option linter.unusedSimpArgs false
set_option maxRecDepth 100000
namespace Go.Proofs.Ytoadmpochaeohaa
open Go.RowKit

theorem twoP (w : World) (x y : List Value) (X : Array Value) (a b : TypeId) (hx : X = x.toArray) : Blk ((w.alloc (.cells X a)).alloc (.cells y.toArray b)).drew w.heap.size x a ∧ Blk ((w.alloc (.cells X a)).alloc (.cells y.toArray b)).drew (w.heap.size + 1) y b ∧ Frm (fun _ => False) w ((w.alloc (.cells X a)).alloc (.cells y.toArray b)).drew := by
  subst hx
  have e1 : (w.alloc (.cells x.toArray a)).heap.size = w.heap.size + 1 := by unfold World.alloc; exact Array.size_push _
  refine ⟨((Blk.new w x a).alloc _).drew, ?_, (((Frm.refl _ _).alloc _).alloc _).drew⟩
  rw [← e1]; exact (Blk.new _ y b).drew
def PI (w0 : World) (bR gr : Nat) (ins : List Ins) (i : Value) (wr : World) : Prop := ∃ j : Nat, i = .int .i64 j ∧ j ≤ ins.length ∧ Frm (fun q => q = bR) w0 wr ∧ Blk wr bR ((refsN (ins.take j) gr).map BV) 4
set_option maxHeartbeats 8000000 in
theorem newPC (A : Option Addr) (n cp gr co : Nat) (fo : Bool) (ins : List Ins) (line : ByteArray) (G : Nat → Prop) (w : World) (hrd : Rd w G 10 A n cp (flatI ins)) (hr : rightE ins gr co = 0) :
    Calls Try.prog 35 #[.agg #[.slice A n cp, .int .i64 gr, .int .i64 co, .bool fo], .string line] w fun e w' => ∃ bX bR, e = .returned (.pointer (some ⟨bX, 0, none⟩)) ∧ PlM w' G bX A n cp gr co fo ins line bR (.slice none 0 0) (.int .i64 0) ∧ w.heap.size ≤ bX ∧ w.heap.size ≤ bR ∧ Frm (fun _ => False) w w' := by
  have hil : ins.length = n := by have := hrd.len; rw [flatI_len] at this; omega
  obtain ⟨r1, r2, r3, r4, r5⟩ := right_ok hr
  have hn4 : n ≤ 40000 := by omega
  have hgr : gr ≤ 30 := by omega
  have HFI : Hid (∀ (k : Nat) (i : Ins), ins[k]? = some i → FineI ins.length gr co k i) := Lib.hid fun k i hi => fine_ok (r5 k i hi)
  have hP := Blk.new w [.slice A n cp, .int .i64 gr, .int .i64 co, .bool fo] 24
  have hf0 : Frm (fun _ => False) w (w.alloc (.cells #[.slice A n cp, .int .i64 gr, .int .i64 co, .bool fo] 24)) := (Frm.refl _ w).alloc _
  have hrd1 := hrd.low.frm hf0 (fun _ _ h => h)
  have HIL := Lib.hid hil
  clear hrd r1 r2 r3 r4 r5 hil hr
  go_enter Try.func35, Try.ntmps35
  go_upto_region 1 with fail
  generalize w.alloc (.cells #[.slice A n cp, .int .i64 gr, .int .i64 co, .bool fo] 24) = w1 at *
  obtain ⟨bP, hbP⟩ : ∃ bP, w.heap.size = bP := ⟨_, rfl⟩
  simp only [hbP] at hP hrd1 ⊢
  have HBP := Lib.hid hbP
  clear hbP
  obtain ⟨x0, x1, x2, x3, y0, y1, y2, y3, lx⟩ := blk4 hP
  go_cut [5] from 7 to 13 (fun v wx => ∃ bX bR, v = .pointer (some ⟨bX, 0, none⟩) ∧ Blk wx bX [.slice A n cp, .int .i64 gr, .int .i64 co, .bool fo, .string line, .slice (some ⟨bR, 0, none⟩) gr gr, .slice none 0 0, .int .i64 0] 111 ∧ Blk wx bR (List.replicate gr (.bool false)) 4 ∧ w1.heap.size ≤ bX ∧ w1.heap.size ≤ bR ∧ Frm (fun _ => False) w1 wx)
  case first =>
    have hm1 := mk81 gr (by omega)
    have T := twoP w1 (List.replicate gr (.bool false)) [.slice A n cp, .int .i64 gr, .int .i64 co, .bool fo, .string line, .slice (some ⟨w1.heap.size, 0, none⟩) gr gr, .slice none 0 0, .int .i64 0] (Array.replicate gr (.bool false)) 4 111 (by simp)
    have HT := Lib.hid T
    clear T
    go_wp2_with fail
    go_region
    all_goals
      go_wp2_with fail
      go_meet
      exact ⟨_, _, rfl, HT.out.2.1, HT.out.1, by omega, by omega, HT.out.2.2⟩
  case rest =>
    obtain ⟨bX, bR, rfl, hX, hR, hbX, hbR, hf1⟩ := hcut
    obtain ⟨w2, hw2⟩ : ∃ w2, w2 = wc := ⟨_, rfl⟩
    subst hw2
    have hP2 := hP.frm hf1 (fun h => h)
    have hrd2 := hrd1.frm hf1 (fun _ _ h => h)
    have hf2 := hf0.trans hf1
    have hPl : bP < w1.heap.size := lx
    have hXR : bX ≠ bR := hX.ne hR (by decide)
    have hPR : bP ≠ bR := by omega
    have h1 : PI w2 bR gr ins (.int .i64 0) w2 := ⟨0, rfl, by omega, Frm.refl _ _, by simpa [refsN, BV] using hR⟩
    have H1 := Lib.hid h1
    have HP := Lib.hid (⟨hP2, hrd2, hX⟩ : _ ∧ _ ∧ _)
    clear x0 x1 x2 x3 y0 y1 y2 y3 lx hP hrd1 hf0 hf1 h1 hP2 hrd2 hX hR
    go_wp2_with fail
    go_loopw [6] (fun i wr => PI w2 bR gr ins i wr) (fun i _ => n - (intOf i).toNat)
    case atStart => exact H1.out
    case round =>
      clear H1
      obtain ⟨j, rfl, hj, hfr, hR⟩ := hrel
      rw [HIL.out] at hj
      have hP3 := HP.out.1.frm hfr hPR
      have hrd3 := HP.out.2.1.frm hfr (fun q hq e => by have := hq.2; omega)
      have hX3 := HP.out.2.2.frm hfr hXR
      obtain ⟨x0, x1, x2, x3, y0, y1, y2, y3, lx⟩ := blk4 hP3
      have u5 := hX3.cell 5
      simp only [List.getElem?_cons_zero, List.getElem?_cons_succ] at u5
      have lu := hX3.lt
      by_cases hjn : j < n
      · obtain ⟨i, hi⟩ : ∃ i, ins[j]? = some i := ⟨_, List.getElem?_eq_getElem (by rw [HIL.out]; exact hjn)⟩
        have f := HFI.out j i hi
        have hl1 := refs_len (ins.take j) gr
        have hq1 : refsN (ins.take (j + 1)) gr = if i.op = 8 then (refsN (ins.take j) gr).set i.n.toNat true else refsN (ins.take j) gr := by
          unfold refsN; rw [List.take_add_one, hi, Option.toList_some, List.foldl_append]; rfl
        generalize refsN (ins.take j) gr = rs at *
        have hFR : ∀ (wz : World), Frm (fun q => q = bR) w2 wz → Blk wz bR ((if i.op = 8 then rs.set i.n.toNat true else rs).map BV) 4 → PI w2 bR gr ins (.int .i64 ((j + 1 : Nat) : Int)) wz :=
          fun wz h1 h2 => ⟨j + 1, rfl, by rw [HIL.out]; omega, h1, by rw [hq1]; exact h2⟩
        have HFR := Lib.hid hFR
        have HSM := Lib.hid hl1
        clear hFR hq1 hl1
        obtain ⟨pb, po, rfl, hpb, hpi⟩ := hrd3.ins j i hi
        obtain ⟨iop, ix, iy, i_n, imn, imx, is0, is1, is2, is3⟩ := i
        have i0 := hpi 0 _ rfl
        have i3 := hpi 3 _ rfl
        rw [Nat.add_zero] at i0
        have hwk : IntKind.i64.wrap ((j : Int) + 1) = ((j + 1 : Nat) : Int) := by rw [IntWalk.i64_in _ (by omega)]; omega
        clear hpi hi
        by_cases h8 : iop = 8
        · subst h8
          obtain ⟨q1, q2⟩ := f.g (by simp)
          simp only at q1 q2
          obtain ⟨kn, rfl⟩ := Int.eq_ofNat_of_zero_le q1
          have hkn : kn < gr := by omega
          obtain ⟨sv, hsv⟩ : ∃ sv, rs[kn]? = some sv := ⟨_, List.getElem?_eq_getElem (by rw [HSM.out]; exact hkn)⟩
          have c0 : wr.cell? ⟨bR, kn, none⟩ = some (.bool sv) := by rw [hR.cell, List.getElem?_map, hsv]; rfl
          have cf := hR.frozen kn
          have ls := hR.lt
          have HN : Hid (PI w2 bR gr ins (.int .i64 ((j + 1 : Nat) : Int)) (wr.setCell ⟨bR, kn, none⟩ (.bool true)).drew) := Lib.hid (HFR.out _ ((hfr.set bR kn _ (fun _ => rfl)).drew) (by
            rw [if_pos rfl]
            have := (hR.setSame kn (BV true)).drew
            rwa [← List.map_set] at this))
          clear hsv hR hfr
          go_wp2_with fail
          go_region
          all_goals
            go_wp2_with fail
            go_roundw
            case measure => simp [intOf] <;> omega
            case rel => exact HN.out
        · have u8 : (iop == 8) = false := by simpa using h8
          have HN : Hid (PI w2 bR gr ins (.int .i64 ((j + 1 : Nat) : Int)) wr) := Lib.hid (HFR.out _ hfr (by rw [if_neg h8]; exact hR))
          clear hR hfr
          go_wp2_with fail
          go_roundw
          case measure => simp [intOf] <;> omega
          case rel => exact HN.out
      · obtain rfl : j = n := by omega
        rw [List.take_of_length_le (by rw [HIL.out]; exact Nat.le_refl _)] at hR
        have HR : Hid (PlM wr G bX A j cp gr co fo ins line bR (.slice none 0 0) (.int .i64 0) ∧ w.heap.size ≤ bX ∧ w.heap.size ≤ bR ∧ Frm (fun _ => False) w wr) := Lib.hid ⟨⟨hX3, hrd3.mono (fun q h _ => h.1), hR⟩, by have := HBP.out; omega, by have := HBP.out; omega, hf2.then hfr (fun q hq hl => by have := HBP.out; omega)⟩
        clear hR hfr hrd3 hP3 hX3
        go_wp2_with fail
        go_ret
        exact ⟨_, _, rfl, HR.out⟩
end Go.Proofs.Ytoadmpochaeohaa
end

section
set_option linter.unusedVariables false
set_option linter.unusedSimpArgs false
set_option maxRecDepth 100000
namespace Go.Proofs.Ytoadmpochaeohaa
open Go.RowKit

/-- Where it begins. -/
def c0R (gr co at_ : Nat) : RC := ⟨0, at_, List.replicate gr (-1), List.replicate gr (-1), List.replicate gr (-1), List.replicate co 0, List.replicate co (-1)⟩
/-- So many configurations are on all ways. -/
def manyR (ins : List Ins) (fo : Bool) (L : List UInt8) (gr co most at_ : Nat) : Nat := walkR (nextR ins fo L (refsN ins gr)) most (most + 2) 0 [] (c0R gr co at_)
theorem c0_RW {ins : List Ins} {gr co at_ N : Nat} (hin : 0 < ins.length) (hat : at_ ≤ N) : RW ins N (c0R gr co at_) := by
  have rep : ∀ (n : Nat) (x z : Int), z ∈ List.replicate n x → z = x := fun n x z h => List.eq_of_mem_replicate h
  refine ⟨hin, hat, fun z hz => ?_, fun z hz => ?_, fun z hz => ?_, fun k x y hx hy h0 => ?_, fun z hz => ?_, fun z hz => ?_⟩
  · have := rep _ _ _ hz; subst this; simp only [c0R]; omega
  · have := rep _ _ _ hz; subst this; simp only [c0R]; omega
  · have := rep _ _ _ hz; subst this; simp only [c0R]; omega
  · have := rep _ _ _ (List.mem_of_getElem? hx); omega
  · have := rep _ _ _ hz; omega
  · have := rep _ _ _ hz; subst this; simp only [c0R]; omega
set_option maxHeartbeats 8000000 in
theorem fewC (A : Option Addr) (n cp gr co : Nat) (fo : Bool) (ins : List Ins) (line : ByteArray) (at_ most : Nat) (G : Nat → Prop) (w : World) (hrd : Rd w G 10 A n cp (flatI ins)) (hr : rightE ins gr co = 0) (hok : ∀ i ∈ ins, i.ok) (hat : at_ ≤ line.size) (hN : line.size ≤ 1000000) (hmost : most ≤ 100000) :
    Calls Try.prog 37 #[.agg #[.slice A n cp, .int .i64 gr, .int .i64 co, .bool fo], .string line, .int .i64 at_, .int .i64 most] w fun e w' => e = .returned (.bool (decide (manyR ins fo line.toList gr co most at_ ≤ most))) ∧ Frm (fun _ => False) w w' := by
  obtain ⟨r1, r2, r3, r4, r5⟩ := right_ok hr
  have hgr : gr ≤ 30 := by omega
  have hco : co ≤ 40 := by omega
  obtain ⟨res, hres⟩ : ∃ res, decide (manyR ins fo line.toList gr co most at_ ≤ most) = res := ⟨_, rfl⟩
  rw [hres]
  have HRES := Lib.hid hres
  have HR := Lib.hid (⟨hr, hok, r4⟩ : _ ∧ _ ∧ _)
  have hP := Blk.new w [.slice A n cp, .int .i64 gr, .int .i64 co, .bool fo] 24
  have hf0 : Frm (fun _ => False) w (w.alloc (.cells #[.slice A n cp, .int .i64 gr, .int .i64 co, .bool fo] 24)) := (Frm.refl _ w).alloc _
  have hrd1 := hrd.low.frm hf0 (fun _ _ h => h)
  clear hrd hres hr hok r1 r2 r3 r4 r5
  go_enter Try.func37, Try.ntmps37
  go_upto_region 1 with fail
  generalize w.alloc (.cells #[.slice A n cp, .int .i64 gr, .int .i64 co, .bool fo] 24) = w1 at *
  obtain ⟨bP, hbP⟩ : ∃ bP, w.heap.size = bP := ⟨_, rfl⟩
  simp only [hbP] at hP hrd1 ⊢
  have HBP := Lib.hid hbP
  clear hbP
  obtain ⟨x0, x1, x2, x3, y0, y1, y2, y3, lx⟩ := blk4 hP
  have HNP := Lib.hid (newPC A n cp gr co fo ins line _ w1 hrd1 HR.out.1)
  go_wp2_with fail
  refine HNP.out.mono ?_
  rintro e w2 ⟨bX, bR, rfl, hPl, hbX, hbR, hf12⟩
  have hP2 := hP.frm hf12 (fun h => h)
  have hf2 := hf0.trans hf12
  have hlP : bP < w1.heap.size := lx
  clear x0 x1 x2 x3 y0 y1 y2 y3 lx hP hf0 hf12 hrd1 HNP
  have hW := Blk.new w2 [.pointer (some ⟨bX, 0, none⟩), .int .i64 0, .slice none 0 0] 121
  have hfw : Frm (fun _ => False) w2 (w2.alloc (.cells #[.pointer (some ⟨bX, 0, none⟩), .int .i64 0, .slice none 0 0] 121)) := (Frm.refl _ _).alloc _
  have hPl3 := hPl.low.frm hfw (fun h => h) (fun _ _ h => h) (fun h => h)
  have hP3 := hP2.frm hfw (fun h => h)
  have hf3 := hf2.trans hfw
  have hlX : bX < w2.heap.size := hPl.obj.lt
  have hlR : bR < w2.heap.size := hPl.refs.lt
  go_upto_region 2 with fail
  generalize w2.alloc (.cells #[.pointer (some ⟨bX, 0, none⟩), .int .i64 0, .slice none 0 0] 121) = w3 at *
  obtain ⟨bW, hbW⟩ : ∃ b, w2.heap.size = b := ⟨_, rfl⟩
  simp only [hbW] at hW hlX hlR hPl3 ⊢
  clear hP2 hf2 hPl
  have hzw : bW < w3.heap.size := hW.lt
  have hw0 : w.heap.size ≤ bW := by have := HBP.out; have := hfw.size; omega
  clear hbW hfw
  obtain ⟨x0, x1, x2, x3, y0, y1, y2, y3, lx⟩ := blk4 hP3
  have HB1 := Lib.hid (begunC gr (-1) w3 (by omega))
  go_wp2_with fail
  refine HB1.out.mono ?_
  rintro e w4 ⟨v1, rfl, hs1, hf34⟩
  obtain ⟨B1, d1, rfl⟩ := hs1.form
  have hP4 := hP3.frm hf34 (fun h => h)
  have hW4 := hW.frm hf34 (fun h => h)
  have hPl4 := hPl3.frm hf34 (fun h => h) (fun _ _ h => h) (fun h => h)
  have hf4 := hf3.trans hf34
  have hz34 := hf34.size
  clear x0 x1 x2 x3 y0 y1 y2 y3 lx HB1 hP3 hW hPl3 hf3 hf34
  have HC0 := Lib.hid (fun w => begunC co 0 w (by omega))
  have HC1 := Lib.hid (fun w => begunC co (-1) w (by omega))
  have HCL : Hid (∀ (B5 B6 : Option Addr) (d5 d6 : Nat) (w6 : World), Frm (fun _ => False) w4 w6 → Rd w6 (fun q => w3.heap.size ≤ q) 1 B5 co d5 ((List.replicate co 0).map I64) → Rd w6 (fun q => w3.heap.size ≤ q) 1 B6 co d6 ((List.replicate co (-1)).map I64) →
      Calls Try.prog 51 #[.pointer (some ⟨bW, 0, none⟩), .agg #[.int .i64 0, .int .i64 at_, .slice B1 gr d1, .slice B1 gr d1, .slice B1 gr d1, .slice B5 co d5, .slice B6 co d6], .int .i64 most] w6 fun e w' => e = .returned (.tuple #[]) ∧ (∃ v', Blk w' bW [.pointer (some ⟨bX, 0, none⟩), .int .i64 (manyR ins fo line.toList gr co most at_ : Nat), v'] 121) ∧ Frm (fun q => q = bW) w6 w') := Lib.hid fun B5 B6 d5 d6 w6 hf46 h5 h6 => by
    have hr1 := (hs1.rd.frm hf46 (fun _ _ h => h)).mono (G := fun q => w3.heap.size ≤ q) (fun q h _ => h)
    refine (onC bW bX A n cp gr co fo ins line bR _ _ most HR.out.1 HR.out.2.1 hN hmost (most + 2) 0 [] (.slice none 0 0) ⟨B1, B1, B1, B5, B6, d1, d1, d1, d5, d6⟩ (c0R gr co at_) (fun _ => False) (fun q => w3.heap.size ≤ q) (fun q => (G q ∧ q < bP) ∧ q < bW) w6 (Nat.zero_le _) (by omega) ⟨hW4.frm hf46 (fun h => h), Sl.nil⟩ (hPl4.frm hf46 (fun h => h) (fun _ _ h => h) (fun h => h)) ⟨hr1, hr1, hr1, h5, h6⟩ (c0_RW HR.out.2.2 hat) (fun z hz => by have := List.eq_of_mem_replicate hz; omega) (Nat.le_refl _) (fun q h => h.elim) ⟨by omega, by intro h; omega, by omega, by omega⟩).mono ?_
    rintro e w7 ⟨v', rfl, hWk, hf⟩
    exact ⟨rfl, ⟨v', hWk.obj⟩, hf.mono (fun q h _ => by rcases h with h | h; exact h; exact h.elim)⟩
  have HP4 := Lib.hid hP4
  have hS4 : w4.cell? ⟨bP, 2, none⟩ = some (.int .i64 co) := hP4.cell 2
  have lx := hP4.lt
  clear hs1 hPl4 hP4
  go_upto_region 3 with fail
  go_region_held3 (fun w' => w'.cell? ⟨bP, 2, none⟩ = some (.int .i64 co)) (first | exact hS7 | exact hS6 | exact hS5 | exact hS4)
    (first
      | (go_at_call_has 47 (-1 : Int); refine (HC1.out _).mono ?_; rintro e w6 ⟨v6, rfl, hs6, hf56⟩; obtain ⟨B6, d6, rfl⟩ := hs6.form; have hP6 := hP5.frm hf56 (fun h => h); have hS6 := hP6.cell 2; simp only [List.getElem?_cons_zero, List.getElem?_cons_succ] at hS6)
      | (go_at_call_has 47 (0 : Int); refine (HC0.out _).mono ?_; rintro e w5 ⟨v5, rfl, hs5, hf45⟩; obtain ⟨B5, d5, rfl⟩ := hs5.form; have hP5 := HP4.out.drew.frm hf45 (fun h => h); have hS5 := hP5.cell 2; simp only [List.getElem?_cons_zero, List.getElem?_cons_succ] at hS5)
      | (go_at_call 51; refine (HCL.out B5 B6 d5 d6 w6 (((Frm.refl _ _).drew.trans hf45).trans hf56) ((hs5.rd.frm hf56 (fun _ _ h => h)).mono (fun q h _ => by have : w4.heap.size ≤ q := h; show w3.heap.size ≤ q; omega)) (hs6.rd.mono (fun q h _ => by have h2 : w5.heap.size ≤ q := h; have h3 := hf45.size; have h4 : w4.drew.heap.size = w4.heap.size := rfl; show w3.heap.size ≤ q; omega))).mono ?_; rintro e w7 ⟨rfl, ⟨v7, hW7⟩, hf67⟩; have hS7 : w7.cell? ⟨bP, 2, none⟩ = some (.int .i64 co) := (hP6.frm hf67 (by omega)).cell 2))
  all_goals
    have w0 := hW7.cell 0
    have w1' := hW7.cell 1
    simp only [List.getElem?_cons_zero, List.getElem?_cons_succ] at w0 w1'
    have lw := hW7.lt
    have hff : Frm (fun _ => False) w w7 := (((hf4.drew.trans hf45).trans hf56)).then hf67 (fun q hq hl => by omega)
    have d1 : decide ((manyR ins fo line.toList gr co most at_ : Int) ≤ (most : Int)) = res := by rw [← HRES.out]; simp
    have d2 := HRES.out
    clear hf45 hf56 hf67 hf4 HCL HC0 HC1
    go_wp2_with fail
    go_ret
    exact ⟨by first | rfl | simp [d2], hff⟩
end Go.Proofs.Ytoadmpochaeohaa
end

section
set_option linter.unusedVariables false
set_option linter.unusedSimpArgs false
set_option maxRecDepth 100000
namespace Go.Proofs.Ytoadmpochaeohaa
open Go.RowKit

inductive Reach (m : Mc) (L : List UInt8) (c0 : Cf) : Cf → Prop
  | refl : Reach m L c0 c0
  | step {c d : Cf} (h : Reach m L c0 c) (hd : d ∈ onS m L c) : Reach m L c0 d
/-- An invariant of configurations; what is told apart by a key goes on alike. -/
structure Sim (m : Mc) (L : List UInt8) (Inv : Cf → Prop) : Prop where
  next : ∀ c, Inv c → ∀ d, d ∈ onS m L c → Inv d
  same : ∀ c c', Inv c → Inv c' → keyS m c = keyS m c' → c.at_ = c'.at_ ∧ isHit m c = isHit m c' ∧ ∀ d, d ∈ onS m L c → ∃ d', d' ∈ onS m L c' ∧ keyS m d = keyS m d'
theorem Reach.inv {m : Mc} {L : List UInt8} {Inv : Cf → Prop} (S : Sim m L Inv) {c0 c : Cf} (h0 : Inv c0) (h : Reach m L c0 c) : Inv c := by
  induction h with
  | refl => exact h0
  | step _ hd ih => exact S.next _ ih _ hd
/-- What is known is at least so far. -/
def atLeast (b : Option Nat) (e : Nat) : Prop := ∃ x, b = some x ∧ e ≤ x
def bestLe (a b : Option Nat) : Prop := ∀ e, atLeast a e → atLeast b e
theorem bestLe.refl (a : Option Nat) : bestLe a a := fun _ h => h
theorem bestLe.trans {a b c : Option Nat} (h : bestLe a b) (k : bestLe b c) : bestLe a c := fun e x => k e (h e x)
theorem hitS_le (m : Mc) (c : Cf) (b : Option Nat) : bestLe b (hitS m c b) := by
  intro e he
  obtain ⟨x, rfl, hx⟩ := he
  unfold hitS
  split
  · simp only
    split
    · exact ⟨_, rfl, by omega⟩
    · exact ⟨_, rfl, hx⟩
  · exact ⟨_, rfl, hx⟩
theorem hitS_at {m : Mc} {c : Cf} (b : Option Nat) (h : isHit m c = true) : atLeast (hitS m c b) c.at_ := by
  unfold hitS
  rw [if_pos h]
  cases b with
  | none => exact ⟨_, rfl, Nat.le_refl _⟩
  | some e =>
    simp only
    split
    · exact ⟨_, rfl, Nat.le_refl _⟩
    · exact ⟨_, rfl, by omega⟩
theorem hitS_cases (m : Mc) (c : Cf) (b : Option Nat) : hitS m c b = b ∨ (isHit m c = true ∧ hitS m c b = some c.at_) := by
  unfold hitS
  split
  · rename_i h
    cases b with
    | none => exact .inr ⟨h, rfl⟩
    | some e =>
      simp only
      split
      · exact .inr ⟨h, rfl⟩
      · exact .inl rfl
  · exact .inl rfl
/-- What a run finds can be come to. -/
theorem run_sound {m : Mc} {L : List UInt8} (Good : Cf → Prop) (hG : ∀ c, Good c → ∀ d, d ∈ onS m L c → Good d) : ∀ (f : Nat) (p : List Fr) (rn r : Rn), runS m L f p rn = some r → (∀ c, .look c ∈ p → Good c) →
    (∀ e, rn.best = some e → ∃ c, Good c ∧ isHit m c = true ∧ c.at_ = e) → ∀ e, r.best = some e → ∃ c, Good c ∧ isHit m c = true ∧ c.at_ = e
  | f, [], rn, r, h, _, hb => by
    have : rn = r := by cases f <;> (simp [runS] at h; exact h)
    subst this; exact hb
  | 0, _ :: _, rn, r, h, _, _ => by simp [runS] at h
  | f + 1, .leave k :: p, rn, r, h, hp, hb => by
    rw [runS] at h
    exact run_sound Good hG f p _ r h (fun c hc => hp c (List.mem_cons_of_mem _ hc)) hb
  | f + 1, .look c :: p, rn, r, h, hp, hb => by
    rw [runS] at h
    have hc := hp c (List.mem_cons_self ..)
    split at h
    · exact run_sound Good hG f p _ r h (fun c hc => hp c (List.mem_cons_of_mem _ hc)) hb
    · refine run_sound Good hG f _ _ r h (fun d hd => ?_) (fun e he => ?_)
      · rcases List.mem_append.1 hd with hd | hd
        · obtain ⟨d', h1, h2⟩ := List.mem_map.1 hd
          injection h2 with h2; subst h2
          exact hG c hc _ (List.mem_reverse.1 h1)
        · split at hd
          · rcases List.mem_cons.1 hd with hd | hd
            · cases hd
            · exact hp d (List.mem_cons_of_mem _ hd)
          · exact hp d (List.mem_cons_of_mem _ hd)
      · simp only at he
        rcases hitS_cases m c rn.best with h1 | ⟨h1, h2⟩
        · exact hb e (by rw [← h1]; exact he)
        · rw [h2] at he; injection he with he
          exact ⟨c, hc, h1, he⟩
/-- How much fuel is enough. -/
def wt (μ : Cf → Nat) : Fr → Nat
  | .look c => μ c
  | .leave _ => 1
theorem wt_looks (μ : Cf → Nat) : ∀ l : List Cf, (l.map (fun c => wt μ (.look c))).sum = (l.map μ).sum
  | [] => rfl
  | c :: l => by simp [wt]
theorem run_ends {m : Mc} {L : List UInt8} (Good : Cf → Prop) (hG : ∀ c, Good c → ∀ d, d ∈ onS m L c → Good d) (μ : Cf → Nat) (hμ : ∀ c, Good c → 2 + ((onS m L c).map μ).sum ≤ μ c) :
    ∀ (f : Nat) (p : List Fr) (rn : Rn), (∀ c, .look c ∈ p → Good c) → (p.map (wt μ)).sum ≤ f → ∃ r, runS m L f p rn = some r
  | f, [], rn, _, _ => ⟨rn, by cases f <;> rfl⟩
  | 0, .leave k :: p, rn, hp, h => by simp [wt] at h
  | 0, .look c :: p, rn, hp, h => by have := hμ c (hp c (List.mem_cons_self ..)); simp [wt] at h; omega
  | f + 1, .leave k :: p, rn, hp, h => by
    rw [runS]
    refine run_ends Good hG μ hμ f p _ (fun c hc => hp c (List.mem_cons_of_mem _ hc)) ?_
    rw [List.map_cons, List.sum_cons, wt] at h
    omega
  | f + 1, .look c :: p, rn, hp, h => by
    rw [runS]
    have hc := hp c (List.mem_cons_self ..)
    have hm := hμ c hc
    rw [List.map_cons, List.sum_cons, wt] at h
    split
    · exact run_ends Good hG μ hμ f p _ (fun c hc => hp c (List.mem_cons_of_mem _ hc)) (by omega)
    · refine run_ends Good hG μ hμ f _ _ (fun d hd => ?_) ?_
      · rcases List.mem_append.1 hd with hd | hd
        · obtain ⟨d', h1, h2⟩ := List.mem_map.1 hd
          injection h2 with h2; subst h2
          exact hG c hc _ (List.mem_reverse.1 h1)
        · split at hd
          · rcases List.mem_cons.1 hd with hd | hd
            · cases hd
            · exact hp d (List.mem_cons_of_mem _ hd)
          · exact hp d (List.mem_cons_of_mem _ hd)
      · rw [List.map_append, List.sum_append, List.map_map]
        have e1 : ((onS m L c).reverse.map (wt μ ∘ Fr.look)).sum = ((onS m L c).map μ).sum := by
          rw [show (wt μ ∘ Fr.look) = μ from rfl, List.map_reverse, List.sum_reverse]
        rw [e1]
        split
        · rw [List.map_cons, List.sum_cons, wt]; omega
        · omega

/-- A way that comes by no key of A. -/
inductive RA (m : Mc) (L : List UInt8) (A : List Key) : Nat → Cf → Cf → Prop
  | refl {c : Cf} (h : keyS m c ∉ A) : RA m L A 0 c c
  | step {n : Nat} {c d e : Cf} (h : keyS m c ∉ A) (hd : d ∈ onS m L c) (t : RA m L A n d e) : RA m L A (n + 1) c e
/-- The same way from what is told apart by the same key. -/
theorem RA.carry {m : Mc} {L : List UInt8} {Inv : Cf → Prop} (S : Sim m L Inv) {A : List Key} : ∀ {n : Nat} {c e : Cf}, RA m L A n c e → ∀ c', Inv c → Inv c' → keyS m c = keyS m c' → ∃ e', RA m L A n c' e' ∧ Inv e' ∧ Inv e ∧ keyS m e = keyS m e'
  | _, _, _, .refl h, c', h1, h2, hk => ⟨c', .refl (by rw [← hk]; exact h), h2, h1, hk⟩
  | _, _, _, .step h hd t, c', h1, h2, hk => by
    obtain ⟨d', hd', hkd⟩ := (S.same _ _ h1 h2 hk).2.2 _ hd
    obtain ⟨e', t', i1, i2, i3⟩ := RA.carry S t d' (S.next _ h1 _ hd) (S.next _ h2 _ hd') hkd
    exact ⟨e', .step (by rw [← hk]; exact h) hd' t', i1, i2, i3⟩
/-- Either it comes by κ no more, or there is a shorter rest from there. -/
theorem RA.cut {m : Mc} {L : List UInt8} {Inv : Cf → Prop} (S : Sim m L Inv) {A : List Key} (κ : Key) : ∀ {n : Nat} {c e : Cf}, Inv c → RA m L A n c e → RA m L (κ :: A) n c e ∨ ∃ n' c2, n' ≤ n ∧ Inv c2 ∧ keyS m c2 = κ ∧ RA m L A n' c2 e
  | n, c, e, hi, h => by
    by_cases hk : keyS m c = κ
    · exact .inr ⟨n, c, Nat.le_refl _, hi, hk, h⟩
    · cases h with
      | refl h => exact .inl (.refl (fun hm => by rcases List.mem_cons.1 hm with hm | hm; exact hk hm; exact h hm))
      | step h hd t =>
        rcases RA.cut S κ (S.next _ hi _ hd) t with h1 | ⟨n', c2, q1, q2, q3, q4⟩
        · exact .inl (.step (fun hm => by rcases List.mem_cons.1 hm with hm | hm; exact hk hm; exact h hm) hd h1)
        · exact .inr ⟨n', c2, by omega, q2, q3, q4⟩
theorem RA.once {m : Mc} {L : List UInt8} {Inv : Cf → Prop} (S : Sim m L Inv) {A : List Key} : ∀ (N n : Nat) (c e : Cf), n ≤ N → Inv c → RA m L A n c e → ∃ e', Inv e' ∧ Inv e ∧ keyS m e = keyS m e' ∧ (keyS m e' = keyS m c ∨ ∃ d n', d ∈ onS m L c ∧ RA m L (keyS m c :: A) n' d e')
  | N, n, c, e, hn, hi, h => by
    cases h with
    | refl h => exact ⟨c, hi, hi, rfl, .inl rfl⟩
    | step h hd t =>
      rename_i n0 d
      have hid := S.next _ hi _ hd
      rcases RA.cut S (keyS m c) hid t with h1 | ⟨n', c2, q1, q2, q3, q4⟩
      · obtain ⟨e', t', i1, i2, i3⟩ := RA.carry S h1 d hid hid rfl
        exact ⟨e', i1, i2, i3, .inr ⟨d, _, hd, t'⟩⟩
      · obtain ⟨e2, t2, i1, i2, i3⟩ := RA.carry S q4 c q2 hi q3
        cases N with
        | zero => omega
        | succ N =>
          obtain ⟨e', j1, j2, j3, j4⟩ := RA.once S N n' c e2 (by omega) hi t2
          exact ⟨e', j1, i2, i3.trans j3, j4⟩
/-- Closed: whoever has been seen leads to what has been seen. -/
def Clo (m : Mc) (L : List UInt8) (Inv : Cf → Prop) (p : List Fr) (rn : Rn) : Prop :=
  ∀ κ, κ ∈ rn.seen → ∃ c, Inv c ∧ keyS m c = κ ∧ (isHit m c = true → atLeast rn.best c.at_) ∧ ∀ d, d ∈ onS m L c → keyS m d ∈ rn.seen ∨ .look d ∈ p
theorem run_closed {m : Mc} {L : List UInt8} {Inv : Cf → Prop} (S : Sim m L Inv) (hpl : m.plain = false) : ∀ (f : Nat) (p : List Fr) (rn r : Rn), runS m L f p rn = some r → (∀ c, .look c ∈ p → Inv c) → (∀ k, .leave k ∉ p) → Clo m L Inv p rn →
    Clo m L Inv [] r ∧ (∀ c, .look c ∈ p → keyS m c ∈ r.seen) ∧ ∀ κ, κ ∈ rn.seen → κ ∈ r.seen
  | f, [], rn, r, h, _, _, hc => by
    have : rn = r := by cases f <;> (simp [runS] at h; exact h)
    subst this
    exact ⟨hc, fun c h => (by simp at h), fun κ h => h⟩
  | 0, _ :: _, rn, r, h, _, _, _ => by simp [runS] at h
  | f + 1, .leave k :: p, rn, r, h, _, hl, _ => absurd (List.mem_cons_self ..) (hl k)
  | f + 1, .look c :: p, rn, r, h, hp, hl, hc => by
    rw [runS] at h
    have hic := hp c (List.mem_cons_self ..)
    split at h
    · rename_i hin
      obtain ⟨g1, g2, g3⟩ := run_closed S hpl f p _ r h (fun c hc => hp c (List.mem_cons_of_mem _ hc)) (fun k hk => hl k (List.mem_cons_of_mem _ hk)) (fun κ hκ => by
        obtain ⟨x, q1, q2, q3, q4⟩ := hc κ hκ
        refine ⟨x, q1, q2, q3, fun d hd => ?_⟩
        rcases q4 d hd with q | q
        · exact .inl q
        · rcases List.mem_cons.1 q with q | q
          · injection q with q; subst q; exact .inl hin
          · exact .inr q)
      refine ⟨g1, fun x hx => ?_, g3⟩
      rcases List.mem_cons.1 hx with hx | hx
      · injection hx with hx; subst hx; exact g3 _ hin
      · exact g2 x hx
    · simp only [hpl, Bool.false_eq_true, if_false] at h
      obtain ⟨g1, g2, g3⟩ := run_closed S hpl f _ _ r h (fun d hd => by
        rcases List.mem_append.1 hd with hd | hd
        · obtain ⟨d', h1, h2⟩ := List.mem_map.1 hd
          injection h2 with h2; subst h2
          exact S.next c hic _ (List.mem_reverse.1 h1)
        · exact hp d (List.mem_cons_of_mem _ hd)) (fun k hk => by
        rcases List.mem_append.1 hk with hk | hk
        · obtain ⟨d', h1, h2⟩ := List.mem_map.1 hk
          cases h2
        · exact hl k (List.mem_cons_of_mem _ hk)) (fun κ hκ => by
        rcases List.mem_cons.1 hκ with rfl | hκ
        · refine ⟨c, hic, rfl, fun hh => hitS_at _ hh, fun d hd => .inr (List.mem_append.2 (.inl (List.mem_map.2 ⟨d, List.mem_reverse.2 hd, rfl⟩)))⟩
        · obtain ⟨x, q1, q2, q3, q4⟩ := hc κ hκ
          refine ⟨x, q1, q2, fun hh => hitS_le _ _ _ _ (q3 hh), fun d hd => ?_⟩
          rcases q4 d hd with q | q
          · exact .inl (List.mem_cons_of_mem _ q)
          · rcases List.mem_cons.1 q with q | q
            · injection q with q; subst q; exact .inl (List.mem_cons_self ..)
            · exact .inr (List.mem_append.2 (.inr q)))
      refine ⟨g1, fun x hx => ?_, fun κ hκ => g3 κ (List.mem_cons_of_mem _ hκ)⟩
      rcases List.mem_cons.1 hx with hx | hx
      · injection hx with hx; subst hx; exact g3 _ (List.mem_cons_self ..)
      · exact g2 x (List.mem_append.2 (.inr hx))
/-- What can be come to is found: a machine that remembers. -/
theorem run_complete {m : Mc} {L : List UInt8} {Inv : Cf → Prop} (S : Sim m L Inv) (hpl : m.plain = false) {f st kp : Nat} {c0 : Cf} {r : Rn} (h0 : Inv c0) (h : runS m L f [.look c0] ⟨[], st, kp, none⟩ = some r) : ∀ c, Reach m L c0 c → isHit m c = true → atLeast r.best c.at_ := by
  obtain ⟨g1, g2, _⟩ := run_closed S hpl f _ _ r h (fun c hc => by rw [List.mem_singleton] at hc; injection hc with hc; subst hc; exact h0) (fun k hk => by simp at hk) (fun κ hκ => (by simp at hκ))
  have key : ∀ c, Reach m L c0 c → keyS m c ∈ r.seen := by
    intro c hc
    induction hc with
    | refl => exact g2 c0 (List.mem_singleton.2 rfl)
    | @step c d hc hd ih =>
      obtain ⟨x, q1, q2, q3, q4⟩ := g1 _ ih
      obtain ⟨d', hd', hk⟩ := (S.same c x (hc.inv S h0) q1 q2.symm).2.2 d hd
      rcases q4 d' hd' with q | q
      · rw [hk]; exact q
      · simp at q
  intro c hc hh
  obtain ⟨x, q1, q2, q3, q4⟩ := g1 _ (key c hc)
  obtain ⟨e1, e2, _⟩ := S.same c x (hc.inv S h0) q1 q2.symm
  rw [e1]
  exact q3 (by rw [← e2]; exact hh)
/-- A plain machine: what lies above is gone through, and forgotten. -/
theorem run_plain {m : Mc} {L : List UInt8} {Inv : Cf → Prop} (S : Sim m L Inv) (hpl : m.plain = true) : ∀ (N f : Nat), f ≤ N → ∀ (cs : List Cf) (p : List Fr) (rn r : Rn), runS m L f (cs.map .look ++ p) rn = some r → (∀ c, c ∈ cs → Inv c) →
    ∃ f' rn', f' ≤ f ∧ runS m L f' p rn' = some r ∧ rn'.seen = rn.seen ∧ bestLe rn.best rn'.best ∧ ∀ c, c ∈ cs → ∀ n e, RA m L rn.seen n c e → isHit m e = true → atLeast rn'.best e.at_
  | N, f, hN, [], p, rn, r, h, _ => ⟨f, rn, Nat.le_refl _, h, rfl, bestLe.refl _, fun c hc => (by simp at hc)⟩
  | N, 0, hN, c :: cs, p, rn, r, h, _ => by simp [runS] at h
  | 0, f + 1, hN, c :: cs, p, rn, r, h, _ => by omega
  | N + 1, f + 1, hN, c :: cs, p, rn, r, h, hi => by
    rw [List.map_cons, List.cons_append, runS] at h
    have hic := hi c (List.mem_cons_self ..)
    split at h
    · rename_i hin
      obtain ⟨f', rn', q1, q2, q3, q4, q5⟩ := run_plain S hpl N f (by omega) cs p _ r h (fun c hc => hi c (List.mem_cons_of_mem _ hc))
      refine ⟨f', rn', by omega, q2, q3, q4, fun x hx n e hr hh => ?_⟩
      rcases List.mem_cons.1 hx with rfl | hx
      · cases hr with
        | refl hno => exact absurd hin hno
        | step hno _ _ => exact absurd hin hno
      · exact q5 x hx n e hr hh
    · rename_i hno
      obtain ⟨f1, rn1, a1, a2, a3, a4, a5⟩ := run_plain S hpl N f (by omega) (onS m L c).reverse _ _ r h (fun d hd => S.next c hic d (List.mem_reverse.1 hd))
      try simp only at a3 a4 a5
      cases f1 with
      | zero => simp [runS] at a2
      | succ f1 =>
        rw [runS] at a2
        obtain ⟨f', rn', q1, q2, q3, q4, q5⟩ := run_plain S hpl N f1 (by omega) cs p _ r a2 (fun c hc => hi c (List.mem_cons_of_mem _ hc))
        simp only [a3, List.erase_cons_head] at q3 q4 q5
        refine ⟨f', rn', by omega, q2, q3, (hitS_le m c rn.best).trans (a4.trans q4), fun x hx n e hr hh => ?_⟩
        rcases List.mem_cons.1 hx with rfl | hx
        · obtain ⟨e', j1, j2, j3, j4⟩ := RA.once S n n x e (Nat.le_refl _) hic hr
          obtain ⟨z1, z2, _⟩ := S.same e e' j2 j1 j3
          rw [z1]
          rw [z2] at hh
          rcases j4 with j4 | ⟨d, n', hd, j4⟩
          · obtain ⟨y1, y2, _⟩ := S.same e' x j1 hic j4
            rw [y2] at hh
            rw [y1]
            exact q4 _ (a4 _ (hitS_at _ hh))
          · exact q4 _ (a5 d (List.mem_reverse.2 hd) n' e' j4 hh)
        · exact q5 x hx n e hr hh
theorem reach_ra {m : Mc} {L : List UInt8} {c0 c : Cf} (h : Reach m L c0 c) : ∃ n, RA m L [] n c0 c := by
  have app : ∀ n c d e, RA m L [] n c d → e ∈ onS m L d → RA m L [] (n + 1) c e := by
    intro n c d e h he
    induction h with
    | refl h => exact .step h he (.refl (by simp))
    | step h hd t ih => exact .step h hd (ih he)
  induction h with
  | refl => exact ⟨0, .refl (by simp)⟩
  | step _ hd ih => obtain ⟨n, h⟩ := ih; exact ⟨n + 1, app _ _ _ _ h hd⟩
/-- What can be come to is found: plain or not. -/
theorem run_all {m : Mc} {L : List UInt8} {Inv : Cf → Prop} (S : Sim m L Inv) {f st kp : Nat} {c0 : Cf} {r : Rn} (h0 : Inv c0) (h : runS m L f [.look c0] ⟨[], st, kp, none⟩ = some r) : ∀ c, Reach m L c0 c → isHit m c = true → atLeast r.best c.at_ := by
  cases hpl : m.plain with
  | false => exact run_complete S hpl h0 h
  | true =>
    intro c hc hh
    obtain ⟨n, hr⟩ := reach_ra hc
    obtain ⟨f', rn', q1, q2, q3, q4, q5⟩ := run_plain S hpl f f (Nat.le_refl _) [c0] [] _ r (by simpa using h) (fun c hc => by rw [List.mem_singleton] at hc; subst hc; exact h0)
    have : rn' = r := by cases f' <;> (simp [runS] at q2; exact q2)
    subst this
    exact q5 c0 (List.mem_singleton.2 rfl) n c hr hh
/-- The answer is the greatest place at which a match can be come to. -/
theorem run_answer {m : Mc} {L : List UInt8} {Inv : Cf → Prop} (S : Sim m L Inv) {f st kp : Nat} {c0 : Cf} {r : Rn} (h0 : Inv c0) (h : runS m L f [.look c0] ⟨[], st, kp, none⟩ = some r) :
    (∀ e, r.best = some e → ∃ c, Reach m L c0 c ∧ isHit m c = true ∧ c.at_ = e) ∧ ∀ c, Reach m L c0 c → isHit m c = true → atLeast r.best c.at_ :=
  ⟨run_sound (Reach m L c0) (fun c hc d hd => .step hc hd) f _ _ r h (fun c hc => by rw [List.mem_singleton] at hc; injection hc with hc; subst hc; exact .refl) (fun e he => (by simp at he)), run_all S h0 h⟩
end Go.Proofs.Ytoadmpochaeohaa
end
