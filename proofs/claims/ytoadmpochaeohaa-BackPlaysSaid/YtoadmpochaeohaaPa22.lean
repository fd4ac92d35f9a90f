/-
  Layer 20: reference 16's Times and Back, walked.
-/
import Derived.Test.YtoadmpochaeohaaPa19
import Derived.Test.YtoadmpochaeohaaPa21
section
set_option linter.unusedVariables false
set_option linter.unusedSimpArgs false
set_option maxRecDepth 100000
namespace Go.Proofs.Ytoadmpochaeohaa
open Go.RowKit

/-- A product, not above 2^62. -/
def timesN (a b : Nat) : Nat := if a = 0 ∨ b = 0 then 0 else if 4611686018427387904 / b < a then 4611686018427387904 else a * b
theorem timesN_le (a b : Nat) : timesN a b ≤ 4611686018427387904 := by
  unfold timesN
  split
  · omega
  · rename_i h
    split
    · omega
    · rename_i h2
      have : a * b ≤ 4611686018427387904 / b * b := Nat.mul_le_mul_right _ (by omega)
      have := Nat.div_mul_le_self 4611686018427387904 b
      omega
theorem timesN_eq {a b : Nat} (h : a * b ≤ 4611686018427387904) : timesN a b = a * b := by
  unfold timesN
  split
  · rename_i h0
    rcases h0 with rfl | rfl <;> simp
  · rename_i h0
    rw [if_neg]
    intro h2
    have := (Nat.div_lt_iff_lt_mul (show 0 < b by omega)).1 h2
    omega
theorem timesN_min {a b : Nat} : timesN a b = min (a * b) 4611686018427387904 := by
  by_cases h : a * b ≤ 4611686018427387904
  · rw [timesN_eq h]; omega
  · unfold timesN
    rw [if_neg (fun h0 => by rcases h0 with rfl | rfl <;> simp at h), if_pos]
    · omega
    · by_cases hb : b = 0
      · subst hb; simp at h
      · exact (Nat.div_lt_iff_lt_mul (by omega)).2 (by omega)
set_option maxHeartbeats 1000000 in
theorem timesC (a b : Nat) (w : World) (ha : a ≤ 4611686018427387904) (hb : b ≤ 4611686018427387904) : Calls Try.prog 40 #[.int .i64 a, .int .i64 b] w fun e w' => e = .returned (.int .i64 (timesN a b)) ∧ w = w' := by
  obtain ⟨r, hr⟩ : ∃ r, timesN a b = r := ⟨_, rfl⟩
  rw [hr]
  unfold timesN at hr
  by_cases ha0 : a = 0
  · rw [if_pos (.inl ha0)] at hr
    subst ha0 hr
    go_enter Try.func40, Try.ntmps40
    go_wp2_with fail
    go_ret
    exact ⟨rfl, rfl⟩
  · have e1 : ((a : Int) == 0) = false := by simpa using ha0
    by_cases hb0 : b = 0
    · rw [if_pos (.inr hb0)] at hr
      subst hb0 hr
      go_enter Try.func40, Try.ntmps40
      go_wp2_with fail
      go_ret
      exact ⟨rfl, rfl⟩
    · have e2 : ((b : Int) == 0) = false := by simpa using hb0
      rw [if_neg (by omega)] at hr
      obtain ⟨q, hq⟩ : ∃ q, 4611686018427387904 / b = q := ⟨_, rfl⟩
      rw [hq] at hr
      have hqb : q ≤ 4611686018427387904 := by rw [← hq]; exact Nat.div_le_self _ _
      have hqm : q * b ≤ 4611686018427387904 := by rw [← hq]; exact Nat.div_mul_le_self _ _
      have ht : Int.tdiv 4611686018427387904 (b : Int) = (q : Int) := by
        rw [Int.tdiv_eq_ediv_of_nonneg (by omega), ← hq]; rfl
      have hw : wrap64 (q : Int) = q := IntWalk.wrap64_in _ (by omega)
      have hbz : (b : Int) ≠ 0 := by omega
      clear hq
      by_cases hlt : q < a
      · rw [if_pos hlt] at hr
        subst hr
        have d : decide ((q : Int) < (a : Int)) = true := decide_eq_true (by omega)
        go_enter Try.func40, Try.ntmps40
        go_wp2_with fail
        go_ret
        exact ⟨rfl, rfl⟩
      · rw [if_neg hlt] at hr
        subst hr
        have d : decide ((q : Int) < (a : Int)) = false := decide_eq_false (by omega)
        have hab : a * b ≤ 4611686018427387904 := by have := Nat.mul_le_mul_right b (show a ≤ q by omega); omega
        have hw2 : wrap64 ((a : Int) * (b : Int)) = ((a * b : Nat) : Int) := by
          rw [show (a : Int) * (b : Int) = ((a * b : Nat) : Int) by push_cast; rfl]
          exact IntWalk.wrap64_in _ (by omega)
        go_enter Try.func40, Try.ntmps40
        go_wp2_with fail
        go_ret
        exact ⟨by first | rfl | (rw [hw2]), rfl⟩
/-- Which groups are referred to, how many turns of a counter tell something, which counters turn. -/
def refsN (ins : List Ins) (gr : Nat) : List Bool := ins.foldl (fun l i => if i.op = 8 then l.set i.n.toNat true else l) (List.replicate gr false)
def bndN (ins : List Ins) (co : Nat) : List Int := ins.foldl (fun l i => if i.op = 10 then l.set i.n.toNat (max (l.getD i.n.toNat 0) (if i.mx < 0 then i.mn else i.mx)) else l) (List.replicate co 0)
def trnN (ins : List Ins) (co : Nat) : List Bool := ins.foldl (fun l i => if i.op = 10 then l.set i.n.toNat true else l) (List.replicate co false)
def grpN (n : Nat) (rs : List Bool) (b : Nat) : Nat := rs.foldl (fun b r => if r then timesN (timesN (timesN b (n + 2)) (n + 2)) (n + 2) else b) b
def conN (bt : List (Int × Bool)) (b : Nat) : Nat := bt.foldl (fun b r => if r.2 then timesN b (2 * (r.1.toNat + 2)) else b) b
/-- P20.4: so many steps a Longest does at most. -/
def backN (ins : List Ins) (gr co n : Nat) : Nat := conN ((bndN ins co).zip (trnN ins co)) (grpN n (refsN ins gr) (timesN (timesN 16 ins.length) (n + 1)))
theorem refs_len (ins : List Ins) (gr : Nat) : (refsN ins gr).length = gr := by
  unfold refsN
  have : ∀ (l : List Ins) (s : List Bool), (l.foldl (fun l i => if i.op = 8 then l.set i.n.toNat true else l) s).length = s.length := by
    intro l
    induction l with
    | nil => intro s; rfl
    | cons i l ih => intro s; rw [List.foldl_cons, ih]; split <;> simp
  rw [this, List.length_replicate]
theorem trn_len (ins : List Ins) (co : Nat) : (trnN ins co).length = co := by
  unfold trnN
  have : ∀ (l : List Ins) (s : List Bool), (l.foldl (fun l i => if i.op = 10 then l.set i.n.toNat true else l) s).length = s.length := by
    intro l
    induction l with
    | nil => intro s; rfl
    | cons i l ih => intro s; rw [List.foldl_cons, ih]; split <;> simp
  rw [this, List.length_replicate]
theorem bnd_len (ins : List Ins) (co : Nat) : (bndN ins co).length = co := by
  unfold bndN
  have : ∀ (l : List Ins) (s : List Int), (l.foldl (fun l i => if i.op = 10 then l.set i.n.toNat (max (l.getD i.n.toNat 0) (if i.mx < 0 then i.mn else i.mx)) else l) s).length = s.length := by
    intro l
    induction l with
    | nil => intro s; rfl
    | cons i l ih => intro s; rw [List.foldl_cons, ih]; split <;> simp
  rw [this, List.length_replicate]
theorem bnd_ok (ins : List Ins) (co : Nat) (h : ∀ i ∈ ins, i.op = 10 → 0 ≤ i.mn ∧ i.mn ≤ 255 ∧ i.mx ≤ 255) : ∀ v ∈ bndN ins co, 0 ≤ v ∧ v ≤ 255 := by
  unfold bndN
  have : ∀ (l : List Ins) (s : List Int), (∀ i ∈ l, i.op = 10 → 0 ≤ i.mn ∧ i.mn ≤ 255 ∧ i.mx ≤ 255) → (∀ v ∈ s, 0 ≤ v ∧ v ≤ 255) → ∀ v ∈ l.foldl (fun l i => if i.op = 10 then l.set i.n.toNat (max (l.getD i.n.toNat 0) (if i.mx < 0 then i.mn else i.mx)) else l) s, 0 ≤ v ∧ v ≤ 255 := by
    intro l
    induction l with
    | nil => intro s _ hs; exact hs
    | cons i l ih =>
      intro s hl hs
      rw [List.foldl_cons]
      refine ih _ (fun j hj => hl j (List.mem_cons_of_mem _ hj)) ?_
      split
      · rename_i h10
        have hi := hl i (List.mem_cons_self ..) h10
        intro v hv
        rcases List.mem_or_eq_of_mem_set hv with hv | rfl
        · exact hs v hv
        · have : 0 ≤ s.getD i.n.toNat 0 ∧ s.getD i.n.toNat 0 ≤ 255 := by
            rw [List.getD_eq_getElem?_getD]
            cases hq : s[i.n.toNat]? with
            | none => simp
            | some x => exact hs x (List.mem_of_getElem? hq)
          split <;> omega
      · exact hs
  exact this ins _ h (fun v hv => by rw [List.eq_of_mem_replicate hv]; omega)
theorem grpN_le (n : Nat) (rs : List Bool) : ∀ b, b ≤ 4611686018427387904 → grpN n rs b ≤ 4611686018427387904 := by
  unfold grpN
  induction rs with
  | nil => intro b h; exact h
  | cons r rs ih =>
    intro b h
    rw [List.foldl_cons]
    refine ih _ ?_
    split
    · exact timesN_le _ _
    · exact h
theorem conN_le (bt : List (Int × Bool)) : ∀ b, b ≤ 4611686018427387904 → conN bt b ≤ 4611686018427387904 := by
  unfold conN
  induction bt with
  | nil => intro b h; exact h
  | cons r rs ih =>
    intro b h
    rw [List.foldl_cons]
    refine ih _ ?_
    split
    · exact timesN_le _ _
    · exact h
def BV (b : Bool) : Value := .bool b
theorem info4 : (Try.prog.info? 4).map (fun i => (i.zero, i.size, i.bytes)) = some (some (.bool false), 1, 1) := by kernel_rfl
theorem mk81 (n : Nat) (hn : n ≤ 1048576) (w : World) : (Instr.makeSlice 81 (.int .i64 n) (.int .i64 n)).run Try.prog w = .ok (.slice (some ⟨w.heap.size, 0, none⟩) n n) (w.alloc (.cells (List.replicate n (.bool false)).toArray 4)) := by
  rw [← made1]
  exact run_make_row' 81 4 (.bool false) 1 Try.underlying81 info4 rfl .i64 .i64 n (by omega) (by omega) w
/-- Between two instructions. -/
def R1 (w0 : World) (bR bB bT gr co : Nat) (ins : List Ins) (i : Value) (wr : World) : Prop :=
  ∃ j : Nat, i = .int .i64 j ∧ j ≤ ins.length ∧ Frm (fun q => q = bR ∨ q = bB ∨ q = bT) w0 wr ∧ Blk wr bR ((refsN (ins.take j) gr).map BV) 4 ∧ Blk wr bB ((bndN (ins.take j) co).map I64) 3 ∧ Blk wr bT ((trnN (ins.take j) co).map BV) 4
set_option maxHeartbeats 16000000 in
theorem backC (A : Option Addr) (n cp gr co : Nat) (fo : Bool) (ins : List Ins) (G : Nat → Prop) (nl : Nat) (w : World) (hrd : Rd w G 10 A n cp (flatI ins)) (hr : rightE ins gr co = 0) (hnl : nl ≤ 1000000) :
    Calls Try.prog 26 #[.agg #[.slice A n cp, .int .i64 gr, .int .i64 co, .bool fo], .int .i64 nl] w fun e w' => e = .returned (.int .i64 (backN ins gr co nl)) ∧ Frm (fun _ => False) w w' := by
  have hil : ins.length = n := by have := hrd.len; rw [flatI_len] at this; omega
  obtain ⟨r1, r2, r3, r4, r5⟩ := right_ok hr
  have hn4 : n ≤ 40000 := by omega
  have hgr : gr ≤ 30 := by omega
  have hco : co ≤ 40 := by omega
  have HFI : Hid (∀ (k : Nat) (i : Ins), ins[k]? = some i → FineI ins.length gr co k i) := Lib.hid fun k i hi => fine_ok (r5 k i hi)
  have hP := Blk.new w [.slice A n cp, .int .i64 gr, .int .i64 co, .bool fo] 24
  have hf0 : Frm (fun _ => False) w (w.alloc (.cells #[.slice A n cp, .int .i64 gr, .int .i64 co, .bool fo] 24)) := (Frm.refl _ w).alloc _
  have hrd1 := hrd.frm hf0 (fun _ _ h => h)
  obtain ⟨r, hrr⟩ : ∃ r, backN ins gr co nl = r := ⟨_, rfl⟩
  rw [hrr]
  have HRR := Lib.hid hrr
  have HIL := Lib.hid hil
  clear hrr hrd r1 r2 r3 r4 r5 hil hr
  go_enter Try.func26, Try.ntmps26
  go_upto_region 1 with fail
  generalize w.alloc (.cells #[.slice A n cp, .int .i64 gr, .int .i64 co, .bool fo] 24) = w1 at *
  obtain ⟨bP, hbP⟩ : ∃ bP, w.heap.size = bP := ⟨_, rfl⟩
  simp only [hbP] at hP ⊢
  have HBP := Lib.hid hbP
  clear hbP
  obtain ⟨x0, x1, x2, x3, y0, y1, y2, y3, lx⟩ := blk4 hP
  have hw1 : IntKind.i64.wrap ((nl : Int) + 1) = ((nl + 1 : Nat) : Int) := by rw [IntWalk.i64_in _ (by omega)]; omega
  have HT1 := Lib.hid (fun w => timesC 16 n w (by omega) (by omega))
  obtain ⟨b1, hb1⟩ : ∃ b1, timesN 16 n = b1 := ⟨_, rfl⟩
  have hb1l : b1 ≤ 4611686018427387904 := by rw [← hb1]; exact timesN_le _ _
  rw [hb1] at HT1
  have HT2 := Lib.hid (fun w => timesC b1 (nl + 1) w hb1l (by omega))
  obtain ⟨b2, hb2⟩ : ∃ b2, timesN b1 (nl + 1) = b2 := ⟨_, rfl⟩
  have hb2l : b2 ≤ 4611686018427387904 := by rw [← hb2]; exact timesN_le _ _
  rw [hb2] at HT2
  have HB12 := Lib.hid (⟨hb1, hb2⟩ : _ ∧ _)
  clear hb1 hb2
  have hm1 := mk81 gr (by omega)
  have hm2 := mk73 co (by omega)
  have hm3 := mk81 co (by omega)
  go_wp2_with fail
  refine (HT1.out _).mono ?_
  rintro e w' ⟨rfl, rfl⟩
  go_wp2_with fail
  refine (HT2.out _).mono ?_
  rintro e w' ⟨rfl, rfl⟩
  have a1 := Blk.new w1 (List.replicate gr (.bool false)) 4
  have f1 : Frm (fun _ => False) w1 (w1.alloc (.cells (List.replicate gr (.bool false)).toArray 4)) := (Frm.refl _ _).alloc _
  have p1 := hP.frm f1 (fun h => h)
  have z1 : (w1.alloc (.cells (List.replicate gr (.bool false)).toArray 4)).heap.size = w1.heap.size + 1 := by unfold World.alloc; exact Array.size_push _
  rw [List.toArray_replicate] at a1 f1 p1 z1
  have Z1 := Lib.hid z1
  clear z1
  go_upto_region 3 with fail
  clear x0 x1 x2 x3 y0 y1 y2 y3 lx
  generalize w1.alloc (.cells (Array.replicate gr (.bool false)) 4) = w2 at *
  obtain ⟨x0, x1, x2, x3, y0, y1, y2, y3, lx⟩ := blk4 p1
  have a2 := Blk.new w2 (List.replicate co (.int .i64 0)) 3
  have f2 : Frm (fun _ => False) w2 (w2.alloc (.cells (List.replicate co (.int .i64 0)).toArray 3)) := (Frm.refl _ _).alloc _
  have p2 := p1.frm f2 (fun h => h)
  have z2 : (w2.alloc (.cells (List.replicate co (.int .i64 0)).toArray 3)).heap.size = w2.heap.size + 1 := by unfold World.alloc; exact Array.size_push _
  rw [List.toArray_replicate] at a2 f2 p2 z2
  have Z2 := Lib.hid z2
  clear z2
  go_upto_region 4 with fail
  clear x0 x1 x2 x3 y0 y1 y2 y3 lx
  generalize w2.alloc (.cells (Array.replicate co (.int .i64 0)) 3) = w3 at *
  obtain ⟨x0, x1, x2, x3, y0, y1, y2, y3, lx⟩ := blk4 p2
  have a3 := Blk.new w3 (List.replicate co (.bool false)) 4
  have f3 : Frm (fun _ => False) w3 (w3.alloc (.cells (List.replicate co (.bool false)).toArray 4)) := (Frm.refl _ _).alloc _
  have p3 := p2.frm f3 (fun h => h)
  rw [List.toArray_replicate] at a3 f3 p3
  go_upto_region 5 with fail
  clear x0 x1 x2 x3 y0 y1 y2 y3 lx
  generalize w3.alloc (.cells (Array.replicate co (.bool false)) 4) = w4 at *
  have hR := (a1.frm f2 (fun h => h)).frm f3 (fun h => h)
  have hB := a2.frm f3 (fun h => h)
  obtain ⟨bR, hbR⟩ : ∃ q, w1.heap.size = q := ⟨_, rfl⟩
  obtain ⟨bB, hbB⟩ : ∃ q, w2.heap.size = q := ⟨_, rfl⟩
  obtain ⟨bT, hbT⟩ : ∃ q, w3.heap.size = q := ⟨_, rfl⟩
  have hlP := hP.lt
  have hzz := hf0.size
  have hff := ((hf0.trans f1).trans f2).trans f3
  have hR1 := (((hrd1.low.frm f1 (fun _ _ h => h)).frm f2 (fun _ _ h => h)).frm f3 (fun _ _ h => h))
  have z1 := Z1.out
  have z2 := Z2.out
  simp only [hbR, hbB, hbT] at hR hB a3 z1 z2 hlP hzz hR1 ⊢
  clear Z1 Z2 hbR hbB hbT a1 a2 f1 f2 f3 p1 p2 hP hf0 hrd1 HT1 HT2 hw1 hm1 hm2 hm3
  have n1 : bP ≠ bR := by omega
  have n2 : bP ≠ bB := by omega
  have n3 : bP ≠ bT := by omega
  have n4 : bR ≠ bB := by omega
  have n5 : bR ≠ bT := by omega
  have n6 : bB ≠ bT := by omega
  have n4' : bB ≠ bR := by omega
  have n5' : bT ≠ bR := by omega
  have n6' : bT ≠ bB := by omega
  have h1 : R1 w4 bR bB bT gr co ins (.int .i64 0) w4 := ⟨0, rfl, by omega, Frm.refl _ _, by simpa [refsN, BV] using hR, by simpa [bndN, I64] using hB, by simpa [trnN, BV] using a3⟩
  have H1 := Lib.hid h1
  have HP := Lib.hid (⟨p3, hR1, hff, hlP, hzz⟩ : _ ∧ _ ∧ _ ∧ _ ∧ _)
  have hbb : bR ≤ bB ∧ bR ≤ bT := by omega
  clear h1 hR hB a3 p3 hR1 hff z1 z2
  go_wp2_with fail
  go_loopw [9] (fun i wr => R1 w4 bR bB bT gr co ins i wr) (fun i _ => n - (intOf i).toNat)
  case atStart => exact H1.out
  case round =>
    clear H1
    obtain ⟨j, rfl, hj, hfr, hR, hB, hT⟩ := hrel
    rw [HIL.out] at hj
    have hPr := HP.out.1.frm hfr (by rintro (e | e | e); exact n1 e; exact n2 e; exact n3 e)
    have hrr := HP.out.2.1.frm hfr (fun q hq e => by have := hq.2; rcases e with e | e | e <;> omega)
    obtain ⟨x0, x1, x2, x3, y0, y1, y2, y3, lx⟩ := blk4 hPr
    by_cases hjn : j < n
    · obtain ⟨i, hi⟩ : ∃ i, ins[j]? = some i := ⟨_, List.getElem?_eq_getElem (by rw [HIL.out]; exact hjn)⟩
      have f := HFI.out j i hi
      have hl1 := refs_len (ins.take j) gr
      have hl2 := bnd_len (ins.take j) co
      have hl3 := trn_len (ins.take j) co
      have hq1 : refsN (ins.take (j + 1)) gr = if i.op = 8 then (refsN (ins.take j) gr).set i.n.toNat true else refsN (ins.take j) gr := by
        unfold refsN; rw [List.take_add_one, hi, Option.toList_some, List.foldl_append]; rfl
      have hq2 : bndN (ins.take (j + 1)) co = if i.op = 10 then (bndN (ins.take j) co).set i.n.toNat (max ((bndN (ins.take j) co).getD i.n.toNat 0) (if i.mx < 0 then i.mn else i.mx)) else bndN (ins.take j) co := by
        unfold bndN; rw [List.take_add_one, hi, Option.toList_some, List.foldl_append]; rfl
      have hq3 : trnN (ins.take (j + 1)) co = if i.op = 10 then (trnN (ins.take j) co).set i.n.toNat true else trnN (ins.take j) co := by
        unfold trnN; rw [List.take_add_one, hi, Option.toList_some, List.foldl_append]; rfl
      generalize refsN (ins.take j) gr = rs at *
      generalize bndN (ins.take j) co = bo at *
      generalize trnN (ins.take j) co = tr at *
      have hFR : ∀ (wz : World), Frm (fun q => q = bR ∨ q = bB ∨ q = bT) w4 wz → Blk wz bR ((if i.op = 8 then rs.set i.n.toNat true else rs).map BV) 4 → Blk wz bB ((if i.op = 10 then bo.set i.n.toNat (max (bo.getD i.n.toNat 0) (if i.mx < 0 then i.mn else i.mx)) else bo).map I64) 3 → Blk wz bT ((if i.op = 10 then tr.set i.n.toNat true else tr).map BV) 4 → R1 w4 bR bB bT gr co ins (.int .i64 ((j + 1 : Nat) : Int)) wz :=
        fun wz h1 h2 h3 h4 => ⟨j + 1, rfl, by rw [HIL.out]; omega, h1, by rw [hq1]; exact h2, by rw [hq2]; exact h3, by rw [hq3]; exact h4⟩
      have HFR := Lib.hid hFR
      have HSM := Lib.hid (⟨hl1, hl2, hl3⟩ : _ ∧ _ ∧ _)
      clear hFR hq1 hq2 hq3 hl1 hl2 hl3
      obtain ⟨pb, po, rfl, hpb, hpi⟩ := hrr.ins j i hi
      obtain ⟨iop, ix, iy, i_n, imn, imx, is0, is1, is2, is3⟩ := i
      have i0 := hpi 0 _ rfl
      have i1 := hpi 1 _ rfl
      have i2 := hpi 2 _ rfl
      have i3 := hpi 3 _ rfl
      have i4 := hpi 4 _ rfl
      have i5 := hpi 5 _ rfl
      have i6 := hpi 6 _ rfl
      have i7 := hpi 7 _ rfl
      have i8 := hpi 8 _ rfl
      have i9 := hpi 9 _ rfl
      rw [Nat.add_zero] at i0
      have hIb := Blk.new wr [.int .i64 iop, .int .i64 ix, .int .i64 iy, .int .i64 i_n, .int .i64 imn, .int .i64 imx, .int .u64 is0, .int .u64 is1, .int .u64 is2, .int .u64 is3] 39
      have hfq : Frm (fun _ => False) wr (wr.alloc (.cells #[.int .i64 iop, .int .i64 ix, .int .i64 iy, .int .i64 i_n, .int .i64 imn, .int .i64 imx, .int .u64 is0, .int .u64 is1, .int .u64 is2, .int .u64 is3] 39)) := (Frm.refl _ _).alloc _
      have hR7 := hR.frm hfq (fun h => h)
      have hB7 := hB.frm hfq (fun h => h)
      have hT7 := hT.frm hfq (fun h => h)
      have hfr7 := hfr.trans (hfq.mono (fun _ h _ => h.elim))
      have hRl := hR.lt
      have hBl := hB.lt
      have hTl := hT.lt
      clear hpi hi hR hB hT hfr hfq hrr
      go_upto_region 9 with fail
      clear i0 i1 i2 i3 i4 i5 i6 i7 i8 i9 hpb x0 x1 x2 x3 y0 y1 y2 y3 lx hPr
      generalize wr.alloc (.cells #[.int .i64 iop, .int .i64 ix, .int .i64 iy, .int .i64 i_n, .int .i64 imn, .int .i64 imx, .int .u64 is0, .int .u64 is1, .int .u64 is2, .int .u64 is3] 39) = w7 at *
      obtain ⟨bI, hbI⟩ : ∃ bI, wr.heap.size = bI := ⟨_, rfl⟩
      simp only [hbI] at hIb hRl hBl hTl ⊢
      clear hbI
      have m1 : bI ≠ bR := by omega
      have m2 : bR ≠ bI := by omega
      have m3 : bI ≠ bB := by omega
      have m4 : bB ≠ bI := by omega
      have m5 : bI ≠ bT := by omega
      have m6 : bT ≠ bI := by omega
      have j0 := hIb.cell 0
      have j3 := hIb.cell 3
      have j4 := hIb.cell 4
      have j5 := hIb.cell 5
      simp only [List.getElem?_cons_zero, List.getElem?_cons_succ] at j0 j3 j4 j5
      have li := hIb.lt
      have hwk : IntKind.i64.wrap ((j : Int) + 1) = ((j + 1 : Nat) : Int) := by rw [IntWalk.i64_in _ (by omega)]; omega
      by_cases h8 : iop = 8
      · subst h8
        obtain ⟨q1, q2⟩ := f.g (by simp)
        simp only at q1 q2
        obtain ⟨kn, rfl⟩ := Int.eq_ofNat_of_zero_le q1
        have hkn : kn < gr := by omega
        obtain ⟨sv, hsv⟩ : ∃ sv, rs[kn]? = some sv := ⟨_, List.getElem?_eq_getElem (by rw [HSM.out.1]; exact hkn)⟩
        have c0 : w7.cell? ⟨bR, kn, none⟩ = some (.bool sv) := by rw [hR7.cell, List.getElem?_map, hsv]; rfl
        have cf := hR7.frozen kn
        have ls := hR7.lt
        have HN : Hid (R1 w4 bR bB bT gr co ins (.int .i64 ((j + 1 : Nat) : Int)) (w7.setCell ⟨bR, kn, none⟩ (.bool true))) := Lib.hid (HFR.out _ (hfr7.set bR kn _ (fun _ => .inl rfl)) (by
          rw [if_pos rfl]
          have := hR7.setSame kn (BV true)
          rwa [← List.map_set] at this) (hB7.setOther bR kn _ n4') (hT7.setOther bR kn _ n5'))
        clear hsv
        go_wp2_with fail
        go_roundw
        case measure => simp [intOf] <;> omega
        case rel => exact HN.out
      · have u8 : (iop == 8) = false := by simpa using h8
        by_cases h10 : iop = 10
        · subst h10
          obtain ⟨q1, q2⟩ := f.c (by simp)
          have qb := f.b rfl
          simp only at q1 q2 qb
          obtain ⟨kn, rfl⟩ := Int.eq_ofNat_of_zero_le q1
          have hkn : kn < co := by omega
          obtain ⟨mv, hmv⟩ : ∃ mv, bo[kn]? = some mv := ⟨_, List.getElem?_eq_getElem (by rw [HSM.out.2.1]; exact hkn)⟩
          obtain ⟨tv, htv⟩ : ∃ mv, tr[kn]? = some mv := ⟨_, List.getElem?_eq_getElem (by rw [HSM.out.2.2]; exact hkn)⟩
          have c0 : w7.cell? ⟨bB, kn, none⟩ = some (.int .i64 mv) := by rw [hB7.cell, List.getElem?_map, hmv]; rfl
          have c1 : w7.cell? ⟨bT, kn, none⟩ = some (.bool tv) := by rw [hT7.cell, List.getElem?_map, htv]; rfl
          have cf0 := hB7.frozen kn
          have ls0 := hB7.lt
          have cf1 := hT7.frozen kn
          have ls1 := hT7.lt
          obtain ⟨bv, hbv⟩ : ∃ bv : Int, (if imx < 0 then imn else imx) = bv := ⟨_, rfl⟩
          obtain ⟨mx, hmx⟩ : ∃ mx : Int, max mv bv = mx := ⟨_, rfl⟩
          have hmax : ∀ (w : World) (ty : TypeId), (Builtin.max_ #[3, 3] ty #[.int .i64 mv, .int .i64 bv]).run Try.prog w = .ok (.int .i64 mx) w := fun w ty => by
            have e1 : (if mv < bv then bv else mv) = mx := by rw [← hmx, Int.max_def]; split <;> split <;> omega
            simp [Builtin.max_, Builtin.max2, e1]
          have hgd : bo.getD kn 0 = mv := by rw [List.getD_eq_getElem?_getD, hmv]; rfl
          have HN : Hid (R1 w4 bR bB bT gr co ins (.int .i64 ((j + 1 : Nat) : Int)) ((w7.setCell ⟨bT, kn, none⟩ (.bool true)).setCell ⟨bB, kn, none⟩ (.int .i64 mx)).drew) := Lib.hid (HFR.out _ ((hfr7.set bT kn _ (fun _ => .inr (.inr rfl))).set bB kn _ (fun _ => .inr (.inl rfl))).drew (by
            rw [if_neg (by simp)]
            exact ((hR7.setOther bT kn _ n5).setOther bB kn _ n4).drew) (by
            rw [if_pos rfl]
            simp only [Int.toNat_natCast]
            rw [hgd, hbv, hmx]
            have := ((hB7.setOther bT kn (.bool true) n6).setSame kn (I64 mx)).drew
            rwa [← List.map_set] at this) (by
            rw [if_pos rfl]
            have := ((hT7.setSame kn (BV true)).setOther bB kn (.int .i64 mx) n6').drew
            rwa [← List.map_set] at this))
          clear hgd hmv htv hmx
          have hbl : (imx < 0 ∧ bv = imn) ∨ (¬ imx < 0 ∧ bv = imx) := by
            by_cases h : imx < 0
            · exact .inl ⟨h, by rw [← hbv, if_pos h]⟩
            · exact .inr ⟨h, by rw [← hbv, if_neg h]⟩
          clear hbv
          rcases hbl with ⟨hneg, rfl⟩ | ⟨hneg, rfl⟩
          · have d1 : decide (imx < 0) = true := decide_eq_true hneg
            go_wp2_with fail
            go_region
            all_goals
              go_wp2_with fail
              go_roundw
              case measure => simp [intOf] <;> omega
              case rel => exact HN.out
          · have d1 : decide (bv < 0) = false := decide_eq_false hneg
            go_wp2_with fail
            go_region
            all_goals
              go_wp2_with fail
              go_roundw
              case measure => simp [intOf] <;> omega
              case rel => exact HN.out
        · have u10 : (iop == 10) = false := by simpa using h10
          have HN : Hid (R1 w4 bR bB bT gr co ins (.int .i64 ((j + 1 : Nat) : Int)) w7) := Lib.hid (HFR.out _ hfr7 (by rw [if_neg h8]; exact hR7) (by rw [if_neg h10]; exact hB7) (by rw [if_neg h10]; exact hT7))
          go_wp2_with fail
          go_roundw
          case measure => simp [intOf] <;> omega
          case rel => exact HN.out
    · obtain rfl : j = n := by omega
      rw [List.take_of_length_le (by rw [HIL.out]; exact Nat.le_refl _)] at hR hB hT
      have hl1 := refs_len ins gr
      have hl2 := bnd_len ins co
      have hl3 := trn_len ins co
      have hl4 := bnd_ok ins co (fun i hi h10 => by obtain ⟨q, hq, e⟩ := List.getElem_of_mem hi; have := (e ▸ HFI.out q _ (List.getElem?_eq_getElem hq) : FineI _ _ _ _ i).b h10; omega)
      have hrn := HRR.out
      unfold backN at hrn
      rw [HIL.out, HB12.out.1, HB12.out.2] at hrn
      generalize refsN ins gr = rs at *
      generalize bndN ins co = bo at *
      generalize trnN ins co = tr at *
      have hf9 : Frm (fun _ => False) w wr := HP.out.2.2.1.then hfr (by rintro q (e | e | e) hq <;> omega)
      obtain ⟨w9, hw9⟩ : ∃ w9, w9 = wr := ⟨_, rfl⟩
      subst hw9
      have HW := Lib.hid (⟨hR, hB, hT⟩ : _ ∧ _ ∧ _)
      have HRN := Lib.hid hrn
      have HLL := Lib.hid (⟨hl1, hl2, hl3, hl4⟩ : _ ∧ _ ∧ _ ∧ _)
      have hw2 : IntKind.i64.wrap ((nl : Int) + 2) = ((nl + 2 : Nat) : Int) := by rw [IntWalk.i64_in _ (by omega)]; omega
      obtain ⟨b3, hb3⟩ : ∃ b3, grpN nl rs b2 = b3 := ⟨_, rfl⟩
      have hb3l : b3 ≤ 4611686018427387904 := by rw [← hb3]; exact grpN_le nl rs b2 hb2l
      have HB3 := Lib.hid hb3
      clear hrn hl1 hl2 hl3 hl4 hR hB hT hfr hPr HFI hrr hb3
      go_wp2_with fail
      go_loopw [5, 12] (fun bv i wr => ∃ k b : Nat, i = .int .i64 k ∧ k ≤ gr ∧ bv = .int .i64 b ∧ Hid (grpN nl (rs.take k) b2 = b) ∧ b ≤ 4611686018427387904 ∧ wr = w9) (fun _ i _ => gr - (intOf i).toNat)
      case atStart => exact ⟨0, b2, rfl, by omega, rfl, Lib.hid rfl, hb2l, rfl⟩
      case round =>
        obtain ⟨k, b, rfl, hk, rfl, hbk, hbl, rfl⟩ := hrel
        by_cases hkg : k < gr
        · obtain ⟨rv, hrv⟩ : ∃ rv, rs[k]? = some rv := ⟨_, List.getElem?_eq_getElem (by rw [HLL.out.1]; exact hkg)⟩
          have c0 : wr.cell? ⟨bR, k, none⟩ = some (.bool rv) := by rw [HW.out.1.cell, List.getElem?_map, hrv]; rfl
          have cl := HW.out.1.lt
          have hwk : IntKind.i64.wrap ((k : Int) + 1) = ((k + 1 : Nat) : Int) := by rw [IntWalk.i64_in _ (by omega)]; omega
          have hnx : grpN nl (rs.take (k + 1)) b2 = if rv then timesN (timesN (timesN b (nl + 2)) (nl + 2)) (nl + 2) else b := by
            unfold grpN at hbk ⊢
            rw [List.take_add_one, hrv, Option.toList_some, List.foldl_append, hbk.out]; rfl
          clear hrv
          cases rv with
          | false =>
            have HNX := Lib.hid hnx
            clear hnx
            go_wp2_with fail
            go_roundw
            case measure => simp [intOf] <;> omega
            case rel => exact ⟨k + 1, b, by go_num, by omega, rfl, Lib.hid (by rw [HNX.out]; rfl), hbl, by first | rfl | trivial⟩
          | true =>
            rw [if_pos rfl] at hnx
            have HA := Lib.hid (fun w => timesC b (nl + 2) w hbl (by omega))
            have l1 := timesN_le b (nl + 2)
            generalize timesN b (nl + 2) = t1 at *
            have HB := Lib.hid (fun w => timesC t1 (nl + 2) w l1 (by omega))
            have l2 := timesN_le t1 (nl + 2)
            generalize timesN t1 (nl + 2) = t2 at *
            have HC := Lib.hid (fun w => timesC t2 (nl + 2) w l2 (by omega))
            have l3 := timesN_le t2 (nl + 2)
            generalize timesN t2 (nl + 2) = t3 at *
            have HNX := Lib.hid hnx
            clear hnx
            go_wp2_with fail
            refine (HA.out _).mono ?_
            rintro e w' ⟨rfl, rfl⟩
            go_wp2_with fail
            refine (HB.out _).mono ?_
            rintro e w' ⟨rfl, rfl⟩
            go_wp2_with fail
            refine (HC.out _).mono ?_
            rintro e w' ⟨rfl, rfl⟩
            go_wp2_with fail
            go_roundw
            case measure => simp [intOf] <;> omega
            case rel => exact ⟨k + 1, t3, by go_num, by omega, rfl, HNX, l3, by first | rfl | trivial⟩
        · obtain rfl : k = gr := by omega
          rw [List.take_of_length_le (by rw [HLL.out.1]; exact Nat.le_refl _), HB3.out] at hbk
          obtain rfl := hbk.out
          obtain ⟨z, hz⟩ : ∃ z, conN (bo.zip tr) b3 = z := ⟨_, rfl⟩
          have HRN2 : Hid (z = r) := Lib.hid (by have := HRN.out; rw [HB3.out] at this; rw [← hz, this])
          have HZ := Lib.hid hz
          clear hz hbk hbl
          go_wp2_with fail
          go_loopw [5, 13] (fun bv i wx => ∃ k b : Nat, i = .int .i64 k ∧ k ≤ co ∧ bv = .int .i64 b ∧ Hid (conN ((bo.zip tr).take k) b3 = b) ∧ b ≤ 4611686018427387904 ∧ wx = wr) (fun _ i _ => co - (intOf i).toNat)
          case atStart => exact ⟨0, b3, rfl, by omega, rfl, Lib.hid rfl, hb3l, rfl⟩
          case round =>
            obtain ⟨q, b, rfl, hq, rfl, hbk, hbl, hwx⟩ := hrel
            subst hwx
            by_cases hqg : q < co
            · obtain ⟨tv, htv⟩ : ∃ rv, tr[q]? = some rv := ⟨_, List.getElem?_eq_getElem (by rw [HLL.out.2.2.1]; exact hqg)⟩
              obtain ⟨mv, hmv⟩ : ∃ rv, bo[q]? = some rv := ⟨_, List.getElem?_eq_getElem (by rw [HLL.out.2.1]; exact hqg)⟩
              have hmb := HLL.out.2.2.2 mv (List.mem_of_getElem? hmv)
              obtain ⟨mn, rfl⟩ := Int.eq_ofNat_of_zero_le hmb.1
              have c0 := HW.out.2.2.cell q
              rw [List.getElem?_map, htv] at c0
              change _ = some (Value.bool tv) at c0
              have cl := HW.out.2.2.lt
              have c1 := HW.out.2.1.cell q
              rw [List.getElem?_map, hmv] at c1
              change _ = some (Value.int .i64 mn) at c1
              have cl1 := HW.out.2.1.lt
              have hwk : IntKind.i64.wrap ((q : Int) + 1) = ((q + 1 : Nat) : Int) := by rw [IntWalk.i64_in _ (by omega)]; omega
              obtain ⟨m1, hm1⟩ : ∃ m1, mn + 2 = m1 := ⟨_, rfl⟩
              obtain ⟨m2, hm2⟩ : ∃ m2, 2 * m1 = m2 := ⟨_, rfl⟩
              have hwm : IntKind.i64.wrap ((mn : Int) + 2) = (m1 : Int) := by rw [IntWalk.i64_in _ (by omega)]; omega
              have hwm2 : IntKind.i64.wrap (2 * (m1 : Int)) = (m2 : Int) := by rw [IntWalk.i64_in _ (by omega)]; omega
              have hnx : conN ((bo.zip tr).take (q + 1)) b3 = if tv then timesN b m2 else b := by
                rw [← hm2, ← hm1]
                unfold conN at hbk ⊢
                have hz : (bo.zip tr)[q]? = some ((mn : Int), tv) := by rw [List.getElem?_zip_eq_some]; exact ⟨hmv, htv⟩
                rw [List.take_add_one, hz, Option.toList_some, List.foldl_append, hbk.out]; rfl
              clear htv hmv
              cases tv with
              | false =>
                have HNX := Lib.hid hnx
                clear hnx
                go_wp2_with fail
                go_roundw
                case measure => simp [intOf] <;> omega
                case rel => exact ⟨q + 1, b, by go_num, by omega, rfl, Lib.hid (by rw [HNX.out]; rfl), hbl, by first | rfl | trivial⟩
              | true =>
                rw [if_pos rfl] at hnx
                have hm2l : m2 ≤ 1000 := by omega
                have HA := Lib.hid (fun w => timesC b m2 w hbl (by omega))
                have l1 := timesN_le b m2
                generalize timesN b m2 = t1 at *
                have HNX := Lib.hid hnx
                clear hnx hm1 hm2
                go_wp2_with fail
                refine (HA.out _).mono ?_
                rintro e w' ⟨rfl, rfl⟩
                go_wp2_with fail
                go_roundw
                case measure => simp [intOf] <;> omega
                case rel => exact ⟨q + 1, t1, by go_num, by omega, rfl, HNX, l1, by first | rfl | trivial⟩
            · obtain rfl : q = co := by omega
              have hzl : (bo.zip tr).length = q := by rw [List.length_zip, HLL.out.2.1, HLL.out.2.2.1]; omega
              rw [List.take_of_length_le (by omega), HZ.out] at hbk
              obtain rfl := hbk.out
              obtain rfl := HRN2.out
              clear hzl hbk
              go_wp2_with fail
              go_ret
              exact ⟨rfl, hf9⟩
end Go.Proofs.Ytoadmpochaeohaa
end

section
set_option linter.unusedVariables false
set_option linter.unusedSimpArgs false
set_option maxRecDepth 100000
namespace Go.Proofs.Ytoadmpochaeohaa
open Go.RowKit

/-- OpTurn. -/
def turnR (i : Ins) (c : RC) : List RC :=
  let k := c.turns.getD i.n.toNat 0
  if i.mn < k ∧ c.last.getD i.n.toNat (-1) = c.at_ then [] else
    (if i.mn ≤ k then [{ c with pc := i.y.toNat }] else []) ++
    (if i.mx = -1 ∨ k < i.mx then [{ c with pc := i.x.toNat, turns := c.turns.set i.n.toNat (k + 1), last := c.last.set i.n.toNat c.at_ }] else [])
/-- Where a configuration leads. -/
def nextR (ins : List Ins) (fo : Bool) (L : List UInt8) (refs : List Bool) (c : RC) : List RC :=
  match ins[c.pc]? with
  | none => []
  | some i =>
    if i.op = 1 then (match L[c.at_]? with | some x => if inB i x then [{ c with pc := c.pc + 1, at_ := c.at_ + 1 }] else [] | none => [])
    else if i.op = 2 then [{ c with pc := i.y.toNat }, { c with pc := i.x.toNat }]
    else if i.op = 3 then [{ c with pc := i.x.toNat }]
    else if i.op = 4 then (if c.at_ = 0 then [{ c with pc := c.pc + 1 }] else [])
    else if i.op = 5 then (if c.at_ = L.length then [{ c with pc := c.pc + 1 }] else [])
    else if i.op = 6 then (if refs.getD i.n.toNat false then [{ c with pc := c.pc + 1, began := c.began.set i.n.toNat c.at_ }] else [{ c with pc := c.pc + 1 }])
    else if i.op = 7 then (if refs.getD i.n.toNat false then [{ c with pc := c.pc + 1, frm := c.frm.set i.n.toNat (if c.began.getD i.n.toNat (-1) < 0 then (c.at_ : Int) else c.began.getD i.n.toNat (-1)), til := c.til.set i.n.toNat c.at_ }] else [{ c with pc := c.pc + 1 }])
    else if i.op = 8 then
      let f := c.frm.getD i.n.toNat (-1)
      let n := c.til.getD i.n.toNat (-1) - f
      if f < 0 ∨ (L.length : Int) - c.at_ < n then [] else if sameS fo L f.toNat c.at_ n.toNat then [{ c with pc := c.pc + 1, at_ := c.at_ + n.toNat }] else []
    else if i.op = 9 then [{ c with pc := c.pc + 1, turns := c.turns.set i.n.toNat 0, last := c.last.set i.n.toNat (-1) }]
    else if i.op = 10 then turnR i c
    else []
/-- A player in memory. -/
structure PlM (w : World) (D : Nat → Prop) (bX : Nat) (A : Option Addr) (n cp gr co : Nat) (fo : Bool) (ins : List Ins) (line : ByteArray) (bR : Nat) (sv mv : Value) : Prop where
  obj : Blk w bX [.slice A n cp, .int .i64 gr, .int .i64 co, .bool fo, .string line, .slice (some ⟨bR, 0, none⟩) gr gr, sv, mv] 111
  rd : Rd w D 10 A n cp (flatI ins)
  refs : Blk w bR ((refsN ins gr).map BV) 4
theorem PlM.frm {S : Nat → Prop} {w w' : World} {D : Nat → Prop} {bX : Nat} {A : Option Addr} {n cp gr co : Nat} {fo : Bool} {ins : List Ins} {line : ByteArray} {bR : Nat} {sv mv : Value} (h : PlM w D bX A n cp gr co fo ins line bR sv mv) (f : Frm S w w') (h1 : ¬ S bX) (h2 : ∀ k, D k → ¬ S k) (h3 : ¬ S bR) : PlM w' D bX A n cp gr co fo ins line bR sv mv :=
  ⟨h.obj.frm f h1, h.rd.frm f h2, h.refs.frm f h3⟩
/-- What a configuration must be. -/
structure RW (ins : List Ins) (N : Nat) (c : RC) : Prop where
  pc : c.pc < ins.length
  at_ : c.at_ ≤ N
  b : ∀ z ∈ c.began, -1 ≤ z ∧ z ≤ c.at_
  f : ∀ z ∈ c.frm, -1 ≤ z ∧ z ≤ c.at_
  t : ∀ z ∈ c.til, -1 ≤ z ∧ z ≤ c.at_
  ft : ∀ (k : Nat) (x y : Int), c.frm[k]? = some x → c.til[k]? = some y → 0 ≤ x → x ≤ y
  tn : ∀ z ∈ c.turns, 0 ≤ z ∧ z ≤ 1000000
  l : ∀ z ∈ c.last, -1 ≤ z ∧ z ≤ c.at_
def flatC (gr co : Nat) (ps : List (CA × RC)) : List Value := ps.flatMap fun p => p.1.cells gr co p.2.pc p.2.at_
/-- Some configurations in memory. -/
def CfL (w : World) (F D : Nat → Prop) (gr co : Nat) (v : Value) (cs : List RC) : Prop :=
  ∃ ps : List (CA × RC), ps.map (·.2) = cs ∧ Sl w F 114 7 v cs.length (flatC gr co ps) ∧ ∀ p ∈ ps, CRd w D p.1 gr co p.2
theorem CfL.nil {w : World} {F D : Nat → Prop} {gr co : Nat} : CfL w F D gr co (.slice none 0 0) [] := ⟨[], rfl, Sl.nil, fun p h => by cases h⟩
theorem CfL.one {w : World} {F D : Nat → Prop} {gr co b : Nat} {s : CA} {c : RC} (hb : Blk w b (s.cells gr co c.pc c.at_) 114) (hF : F b) (h : CRd w D s gr co c) : CfL w F D gr co (.slice (some ⟨b, 0, none⟩) 1 1) [c] :=
  ⟨[(s, c)], rfl, .at_ (rest := []) hF (by simpa [flatC] using hb) rfl rfl (Nat.le_refl _) (by simp only [maxLen]; omega), fun p hp => by rw [List.mem_singleton] at hp; subst hp; exact h⟩
theorem CfL.two {w : World} {F D : Nat → Prop} {gr co b : Nat} {s t : CA} {c d : RC} (hb : Blk w b (s.cells gr co c.pc c.at_ ++ t.cells gr co d.pc d.at_) 114) (hF : F b) (h : CRd w D s gr co c) (h2 : CRd w D t gr co d) : CfL w F D gr co (.slice (some ⟨b, 0, none⟩) 2 2) [c, d] :=
  ⟨[(s, c), (t, d)], rfl, .at_ (rest := []) hF (by simpa [flatC] using hb) rfl rfl (Nat.le_refl _) (by simp only [maxLen]; omega), fun p hp => by
    simp only [List.mem_cons, List.not_mem_nil, or_false] at hp
    rcases hp with rfl | rfl
    · exact h
    · exact h2⟩
theorem refs_get {w : World} {D : Nat → Prop} {bX : Nat} {A : Option Addr} {n cp gr co : Nat} {fo : Bool} {ins : List Ins} {line : ByteArray} {bR : Nat} {sv mv : Value} (h : PlM w D bX A n cp gr co fo ins line bR sv mv) (k : Nat) (hk : k < gr) : ∃ b, (refsN ins gr).getD k false = b ∧ w.cell? ⟨bR, k, none⟩ = some (.bool b) ∧ bR < w.heap.size := by
  have hl := refs_len ins gr
  obtain ⟨b, hb⟩ : ∃ b, (refsN ins gr)[k]? = some b := ⟨_, List.getElem?_eq_getElem (by omega)⟩
  exact ⟨b, by rw [List.getD_eq_getElem?_getD, hb]; rfl, by rw [h.refs.cell, List.getElem?_map, hb]; rfl, h.refs.lt⟩
end Go.Proofs.Ytoadmpochaeohaa
end
