/-
  Free: has a program no backreference and no counter?
-/
import Derived.Test.YtoadmpochaeohaaPa4
import Derived.Test.YtoadmpochaeohaaPa15
import Derived.Test.YtoadmpochaeohaaPa12
import Derived.Test.YtoadmpochaeohaaPa13
import Derived.Test.YtoadmpochaeohaaPa11
section
set_option linter.unusedVariables false
set_option linter.unusedSimpArgs false
set_option maxRecDepth 100000
namespace Go.Proofs.Ytoadmpochaeohaa
open Go.RowKit

def freeI (i : Ins) : Bool := !(i.op == 8 || (i.op == 9 || i.op == 10))
def freeB (l : List Ins) : Bool := l.all freeI

set_option maxHeartbeats 4000000 in
theorem freeC (A : Option Addr) (n cp : Nat) (gr co : Int) (fo : Bool) (ins : List Ins) (G : Nat → Prop) (w : World) (hrd : Rd w G 10 A n cp (flatI ins)) (hn : n ≤ 40000) :
    Calls Try.prog 57 #[.agg #[.slice A n cp, .int .i64 gr, .int .i64 co, .bool fo]] w fun e w' => e = .returned (.bool (freeB ins)) ∧ Frm (fun _ => False) w w' := by
  have hil : ins.length = n := by have := hrd.len; rw [flatI_len] at this; omega
  have HIL := Lib.hid hil
  clear hil
  have hf0 : Frm (fun _ => False) w (w.alloc (.cells #[.slice A n cp, .int .i64 gr, .int .i64 co, .bool fo] 24)) := (Frm.refl _ w).alloc _
  have hP := Blk.new w [.slice A n cp, .int .i64 gr, .int .i64 co, .bool fo] 24
  have p0 := hP.cell 0
  simp only [List.getElem?_cons_zero, List.getElem?_cons_succ] at p0
  go_enter Try.func57, Try.ntmps57
  go_upto_region 1 with fail
  generalize w.alloc (.cells #[.slice A n cp, .int .i64 gr, .int .i64 co, .bool fo] 24) = w1 at *
  generalize w.heap.size = bp at *
  go_wp2_with fail
  go_loopw [8] (fun i wr => ∃ (k : Nat), i = .int .i64 k ∧ k ≤ n ∧ Frm (fun _ => False) w wr ∧ Hid ((ins.take k).all freeI = true)) (fun i _ => n - (intOf i).toNat)
  case atStart => exact ⟨0, rfl, by omega, hf0, by rw [Hid]; rfl⟩
  case round =>
    obtain ⟨k, rfl, hk, hf, HA⟩ := hrel
    by_cases hkn : k < n
    · obtain ⟨i, hi⟩ : ∃ i, ins[k]? = some i := ⟨_, List.getElem?_eq_getElem (by rw [HIL.out]; exact hkn)⟩
      obtain ⟨b, off, rfl, hb, hci⟩ := (hrd.frm hf (fun _ _ h => h)).ins k i hi
      have e0 := hci 0 _ rfl
      have e1 := hci 1 _ rfl
      have e2 := hci 2 _ rfl
      have e3 := hci 3 _ rfl
      have e4 := hci 4 _ rfl
      have e5 := hci 5 _ rfl
      have e6 := hci 6 _ rfl
      have e7 := hci 7 _ rfl
      have e8 := hci 8 _ rfl
      have e9 := hci 9 _ rfl
      rw [Nat.add_zero] at e0
      have htk : ins.take (k + 1) = ins.take k ++ [i] := by rw [List.take_add_one, hi]; rfl
      have HTK := Lib.hid htk
      have HII := Lib.hid hi
      clear hci hi htk
      obtain ⟨iop, ix, iy, i_n, imn, imx, is0, is1, is2, is3⟩ := i
      simp only at e0 e1 e2 e3 e4 e5 e6 e7 e8 e9
      have hf2 := hf.alloc (.cells #[.int .i64 iop, .int .i64 ix, .int .i64 iy, .int .i64 i_n, .int .i64 imn, .int .i64 imx, .int .u64 is0, .int .u64 is1, .int .u64 is2, .int .u64 is3] 39)
      by_cases h8 : iop = 8 ∨ iop = 9 ∨ iop = 10
      · have hno : freeB ins = false := by
          rw [freeB, List.all_eq_false]
          exact ⟨_, List.mem_of_getElem? HII.out, by rcases h8 with rfl | rfl | rfl <;> simp [freeI]⟩
        have HNO := Lib.hid hno
        clear hno
        rcases h8 with rfl | rfl | rfl
        all_goals
          go_wp2_with fail
          go_ret
          exact ⟨by rw [HNO.out]; rfl, hf2⟩
      · have t8 : (iop == 8) = false := by simp; omega
        have t9 : (iop == 9) = false := by simp; omega
        have t10 : (iop == 10) = false := by simp; omega
        have H8 := Lib.hid h8
        clear h8
        go_wp2_with fail
        go_roundw
        case measure => simp [intOf] <;> omega
        case rel =>
          refine ⟨k + 1, by go_num, by omega, hf2, ?_⟩
          have := H8.out
          rw [Hid, HTK.out, List.all_append, HA.out]
          simp [freeI]
          omega
    · obtain rfl : k = n := by omega
      have hall : freeB ins = true := by have := HA.out; rw [List.take_of_length_le (by rw [HIL.out]; exact Nat.le_refl _)] at this; exact this
      have HALL := Lib.hid hall
      clear hall
      go_wp2_with fail
      go_ret
      exact ⟨by rw [HALL.out]; rfl, hf⟩
end Go.Proofs.Ytoadmpochaeohaa
end

section
set_option linter.unusedVariables false
set_option linter.unusedSimpArgs false
set_option maxRecDepth 100000
namespace Go.Proofs.Ytoadmpochaeohaa
open Go.RowKit

def fineAt (gr co : Int) (l : List Ins) (k : Nat) : Bool := match l[k]? with | some i => fineB l.length gr co k i | none => true
def allFine (gr co : Int) (l : List Ins) (m : Nat) : Bool := (List.range m).all (fineAt gr co l)
/-- What is wrong with a program: 0: nothing. -/
def rightE (l : List Ins) (gr co : Int) : Int :=
  if 40000 < l.length then 42 else if gr < 0 ∨ 30 < gr ∨ co < 0 ∨ 40 < co then 1 else if l.length = 0 then 60 else if allFine gr co l l.length then 0 else 60

set_option maxHeartbeats 4000000 in
theorem rightC (A : Option Addr) (n cp : Nat) (gr co : Int) (fo : Bool) (ins : List Ins) (G : Nat → Prop) (w : World) (hrd : Rd w G 10 A n cp (flatI ins)) :
    Calls Try.prog 31 #[.agg #[.slice A n cp, .int .i64 gr, .int .i64 co, .bool fo]] w fun e w' => (∃ k : Int, e = .returned (.tuple #[.int .i64 (rightE ins gr co), .int .i64 k])) ∧ Frm (fun _ => False) w w' := by
  have hil : ins.length = n := by have := hrd.len; rw [flatI_len] at this; omega
  subst hil
  obtain ⟨r, hr⟩ : ∃ r, rightE ins gr co = r := ⟨_, rfl⟩
  rw [hr]
  have HR := Lib.hid hr
  clear hr
  have hf0 : Frm (fun _ => False) w (w.alloc (.cells #[.slice A ins.length cp, .int .i64 gr, .int .i64 co, .bool fo] 24)) := (Frm.refl _ w).alloc _
  have hP := Blk.new w [.slice A ins.length cp, .int .i64 gr, .int .i64 co, .bool fo] 24
  have p0 := hP.cell 0
  have p1 := hP.cell 1
  have p2 := hP.cell 2
  have p3 := hP.cell 3
  simp only [List.getElem?_cons_zero, List.getElem?_cons_succ] at p0 p1 p2 p3
  go_enter Try.func31, Try.ntmps31
  go_upto_region 1 with fail
  generalize w.alloc (.cells #[.slice A ins.length cp, .int .i64 gr, .int .i64 co, .bool fo] 24) = w1 at *
  generalize w.heap.size = bp at *
  generalize hn : ins.length = n at *
  have HN := Lib.hid hn
  clear hn
  by_cases h1 : 40000 < n
  · obtain rfl : 42 = r := by rw [← HR.out, rightE, HN.out, if_pos h1]
    have t1 : decide (40000 < (n : Int)) = true := decide_eq_true (by omega)
    go_wp2_with fail
    go_ret2
    exact ⟨⟨_, rfl⟩, hf0⟩
  · have t1 : decide (40000 < (n : Int)) = false := decide_eq_false (by omega)
    by_cases h2 : gr < 0
    · obtain rfl : 1 = r := by rw [← HR.out, rightE, HN.out, if_neg h1, if_pos (.inl h2)]
      have t2 : decide (gr < 0) = true := decide_eq_true h2
      go_wp2_with fail
      go_ret2
      exact ⟨⟨_, rfl⟩, hf0⟩
    · have t2 : decide (gr < 0) = false := decide_eq_false h2
      by_cases h3 : 30 < gr
      · obtain rfl : 1 = r := by rw [← HR.out, rightE, HN.out, if_neg h1, if_pos (.inr (.inl h3))]
        have t3 : decide (30 < gr) = true := decide_eq_true h3
        go_wp2_with fail
        go_ret2
        exact ⟨⟨_, rfl⟩, hf0⟩
      · have t3 : decide (30 < gr) = false := decide_eq_false h3
        by_cases h4 : co < 0
        · obtain rfl : 1 = r := by rw [← HR.out, rightE, HN.out, if_neg h1, if_pos (.inr (.inr (.inl h4)))]
          have t4 : decide (co < 0) = true := decide_eq_true h4
          go_wp2_with fail
          go_ret2
          exact ⟨⟨_, rfl⟩, hf0⟩
        · have t4 : decide (co < 0) = false := decide_eq_false h4
          by_cases h5 : 40 < co
          · obtain rfl : 1 = r := by rw [← HR.out, rightE, HN.out, if_neg h1, if_pos (.inr (.inr (.inr h5)))]
            have t5 : decide (40 < co) = true := decide_eq_true h5
            go_wp2_with fail
            go_ret2
            exact ⟨⟨_, rfl⟩, hf0⟩
          · have t5 : decide (40 < co) = false := decide_eq_false h5
            have hng : ¬ (gr < 0 ∨ 30 < gr ∨ co < 0 ∨ 40 < co) := by omega
            by_cases h6 : n = 0
            · obtain rfl : 60 = r := by rw [← HR.out, rightE, HN.out, if_neg h1, if_neg hng, if_pos h6]
              subst h6
              clear hng
              go_wp2_with fail
              go_ret2
              exact ⟨⟨_, rfl⟩, hf0⟩
            · have hr2 : (if allFine gr co ins n then (0 : Int) else 60) = r := by rw [← HR.out, rightE, HN.out, if_neg h1, if_neg hng, if_neg h6]
              have HR2 := Lib.hid hr2
              have t6 : ((n : Int) == 0) = false := by simp; omega
              have t6' : ¬ ((n : Int) = 0) := by omega
              clear hr2 HR hng
              go_wp2_with fail
              go_loopw [37] (fun i wr => ∃ (k : Nat), i = .int .i64 k ∧ k ≤ n ∧ Frm (fun _ => False) w1 wr ∧ Hid (allFine gr co ins k = true)) (fun i _ => n - (intOf i).toNat)
              case atStart => exact ⟨0, rfl, by omega, Frm.refl _ _, by rw [Hid]; rfl⟩
              case round =>
                obtain ⟨k, rfl, hk, hf, HA⟩ := hrel
                have hPr := hP.frm hf (fun h => h)
                have hff : Frm (fun _ => False) w wr := hf0.trans hf
                clear p0 p1 p2 p3
                have p0 := hPr.cell 0
                have p1 := hPr.cell 1
                have p2 := hPr.cell 2
                have p3 := hPr.cell 3
                simp only [List.getElem?_cons_zero, List.getElem?_cons_succ] at p0 p1 p2 p3
                have lp := hPr.lt
                by_cases hkn : k < n
                · obtain ⟨i, hi⟩ : ∃ i, ins[k]? = some i := ⟨_, List.getElem?_eq_getElem (by rw [HN.out]; exact hkn)⟩
                  have hfa : fineAt gr co ins k = fineB n gr co k i := by rw [fineAt, hi, HN.out]
                  have hsucc : allFine gr co ins (k + 1) = (allFine gr co ins k && fineB n gr co k i) := by rw [allFine, List.range_succ, List.all_append, ← allFine]; simp [hfa]
                  have HSU := Lib.hid hsucc
                  have HFC := Lib.hid (fineC A n cp gr co fo ins G k i wr (hrd.frm hff (fun _ _ h => h)) hi (by omega))
                  have hfn : fineB n gr co k i = false → allFine gr co ins n = false := fun h => by
                    rw [allFine, List.all_eq_false]
                    exact ⟨k, List.mem_range.2 hkn, by rw [hfa, h]; simp⟩
                  have HFN := Lib.hid hfn
                  clear hi hfa hsucc hfn
                  go_wp2_with fail
                  refine HFC.out.mono ?_
                  rintro e w3 ⟨rfl, hf3⟩
                  cases hb : fineB n gr co k i with
                  | false =>
                    have hr0 : (60 : Int) = r := by rw [← HR2.out, HFN.out hb]; rfl
                    subst hr0
                    clear hb
                    go_wp2_with fail
                    go_ret2
                    exact ⟨⟨_, rfl⟩, hff.trans hf3⟩
                  | true =>
                    have HB := Lib.hid hb
                    clear hb
                    go_wp2_with fail
                    go_roundw
                    case measure => simp [intOf] <;> omega
                    case rel => exact ⟨k + 1, by go_num, by omega, hf.trans hf3, by rw [Hid, HSU.out, HA.out, HB.out]; rfl⟩
                · obtain rfl : k = n := by omega
                  obtain rfl : (0 : Int) = r := by rw [← HR2.out, HA.out]; rfl
                  go_wp2_with fail
                  go_ret2
                  exact ⟨⟨_, rfl⟩, hff⟩
end Go.Proofs.Ytoadmpochaeohaa
end

section
set_option linter.unusedVariables false
set_option linter.unusedSimpArgs false
set_option maxRecDepth 100000
namespace Go.Proofs.Ytoadmpochaeohaa
open Go.RowKit

theorem right_ok {ins : List Ins} {gr co : Int} (h : rightE ins gr co = 0) : ins.length ≤ 40000 ∧ (0 ≤ gr ∧ gr ≤ 30) ∧ (0 ≤ co ∧ co ≤ 40) ∧ 0 < ins.length ∧ ∀ (k : Nat) (i : Ins), ins[k]? = some i → fineB ins.length gr co k i = true := by
  unfold rightE at h
  split at h
  · cases h
  split at h
  · cases h
  split at h
  · cases h
  split at h
  · rename_i h1 h2 h3 h4
    refine ⟨by omega, by omega, by omega, by omega, fun k i hi => ?_⟩
    have hk := (List.getElem?_eq_some_iff.1 hi).1
    have := List.all_eq_true.1 h4 k (List.mem_range.2 hk)
    unfold fineAt at this
    rwa [hi] at this
  · cases h
/-- What a fine instruction is. -/
structure FineI (n : Nat) (gr co : Int) (k : Nat) (i : Ins) : Prop where
  op : 1 ≤ i.op ∧ i.op ≤ 11
  x : i.op = 2 ∨ i.op = 3 ∨ i.op = 10 → 0 ≤ i.x ∧ i.x < n
  y : i.op = 2 ∨ i.op = 10 → 0 ≤ i.y ∧ i.y < n
  g : i.op = 6 ∨ i.op = 7 ∨ i.op = 8 → 0 ≤ i.n ∧ i.n < gr
  c : i.op = 9 ∨ i.op = 10 → 0 ≤ i.n ∧ i.n < co
  nx : i.op ≠ 2 → i.op ≠ 3 → i.op ≠ 10 → i.op ≠ 11 → k + 1 < n
  b : i.op = 10 → 0 ≤ i.mn ∧ i.mn ≤ 255 ∧ i.mx ≤ 255 ∧ -1 ≤ i.mx
theorem fine_ok {n : Nat} {gr co : Int} {k : Nat} {i : Ins} (h : fineB n gr co k i = true) : FineI n gr co k i := by
  obtain ⟨op, x, y, nn, mn, mx, s0, s1, s2, s3⟩ := i
  unfold fineB at h
  simp only [Bool.and_eq_true] at h
  obtain ⟨⟨⟨⟨⟨⟨h1, h2⟩, h3⟩, h4⟩, h5⟩, h6⟩, h7⟩ := h
  by_cases e1 : op = 1
  · subst e1; simp [ofV, withinB, boundsB] at h1 h3 h4 h5 h6 h7
    exact ⟨by simp, by simp, by simp, by simp, by simp, fun _ _ _ _ => h7, by simp⟩
  by_cases e2 : op = 2
  · subst e2; simp [ofV, withinB, boundsB] at h1 h3 h4 h5 h6 h7
    exact ⟨by simp, fun _ => h3, fun _ => h4, by simp, by simp, by simp, by simp⟩
  by_cases e3 : op = 3
  · subst e3; simp [ofV, withinB, boundsB] at h1 h3 h4 h5 h6 h7
    exact ⟨by simp, fun _ => h3, by simp, by simp, by simp, by simp, by simp⟩
  by_cases e4 : op = 4
  · subst e4; simp [ofV, withinB, boundsB] at h1 h3 h4 h5 h6 h7
    exact ⟨by simp, by simp, by simp, by simp, by simp, fun _ _ _ _ => h7, by simp⟩
  by_cases e5 : op = 5
  · subst e5; simp [ofV, withinB, boundsB] at h1 h3 h4 h5 h6 h7
    exact ⟨by simp, by simp, by simp, by simp, by simp, fun _ _ _ _ => h7, by simp⟩
  by_cases e6 : op = 6
  · subst e6; simp [ofV, withinB, boundsB] at h1 h3 h4 h5 h6 h7
    exact ⟨by simp, by simp, by simp, fun _ => h5, by simp, fun _ _ _ _ => h7, by simp⟩
  by_cases e7 : op = 7
  · subst e7; simp [ofV, withinB, boundsB] at h1 h3 h4 h5 h6 h7
    exact ⟨by simp, by simp, by simp, fun _ => h5, by simp, fun _ _ _ _ => h7, by simp⟩
  by_cases e8 : op = 8
  · subst e8; simp [ofV, withinB, boundsB] at h1 h3 h4 h5 h6 h7
    exact ⟨by simp, by simp, by simp, fun _ => h5, by simp, fun _ _ _ _ => h7, by simp⟩
  by_cases e9 : op = 9
  · subst e9; simp [ofV, withinB, boundsB] at h1 h3 h4 h5 h6 h7
    exact ⟨by simp, by simp, by simp, by simp, fun _ => h5, fun _ _ _ _ => h7, by simp⟩
  by_cases e10 : op = 10
  · subst e10; simp [ofV, withinB, boundsB] at h1 h3 h4 h5 h6 h7
    exact ⟨by simp, fun _ => h3, fun _ => h4, by simp, fun _ => h5, by simp, fun _ => by simp only; omega⟩
  by_cases e11 : op = 11
  · subst e11
    exact ⟨by simp, by simp, by simp, by simp, by simp, by simp, by simp⟩
  · simp [ofV, e1, e2, e3, e4, e5, e6, e7, e8, e9, e10, e11] at h1

theorem filter_set_len (p : Int → Bool) : ∀ (l : List Int) (k : Nat) (x y : Int), l[k]? = some y → p y = false → p x = true → ((l.set k x).filter p).length = (l.filter p).length + 1
  | [], k, x, y, h, _, _ => by simp at h
  | a :: l, 0, x, y, h, hy, hx => by
    simp at h; subst h
    rw [List.set_cons_zero, List.filter_cons, List.filter_cons, hx, hy]; simp
  | a :: l, k + 1, x, y, h, hy, hx => by
    have ih := filter_set_len p l k x y (by simpa using h) hy hx
    rw [List.set_cons_succ, List.filter_cons, List.filter_cons]
    split <;> simp [ih]
/-- The places so far: as many as have one. -/
structure SlI (gr : Nat) (s : List Int) (n : Int) : Prop where
  len : s.length = gr
  cnt : ((s.filter (0 ≤ ·)).length : Int) = n
  bd : ∀ v ∈ s, -1 ≤ v ∧ v < n ∨ v = -1
theorem slI_set {gr : Nat} {s : List Int} {n : Int} {k : Nat} {y : Int} (h : SlI gr s n) (hk : s[k]? = some y) (hy : y < 0) : SlI gr (s.set k n) (n + 1) := by
  have hn : 0 ≤ n := by have := h.cnt; omega
  refine ⟨by rw [List.length_set, h.len], ?_, fun v hv => ?_⟩
  · have := filter_set_len (fun v => decide (0 ≤ v)) s k n y hk (by simpa using hy) (by simpa using hn)
    rw [this]; have := h.cnt; omega
  · rcases List.mem_or_eq_of_mem_set hv with hv | rfl
    · rcases h.bd v hv with h | h
      · exact .inl (by omega)
      · exact .inr h
    · exact .inl (by omega)
theorem slotP_inv {gr : Nat} : ∀ (l : List Ins) (s : List Int) (n : Int), SlI gr s n → (∀ i ∈ l, i.op = 8 → 0 ≤ i.n ∧ i.n < gr) →
    SlI gr (slotP l s n).1 (slotP l s n).2 ∧ (∀ (k : Nat) (v : Int), s[k]? = some v → 0 ≤ v → ∃ v', (slotP l s n).1[k]? = some v' ∧ 0 ≤ v') ∧ ∀ i ∈ l, i.op = 8 → ∃ v, (slotP l s n).1[i.n.toNat]? = some v ∧ 0 ≤ v
  | [], s, n, h, _ => ⟨h, fun k v hk hv => ⟨v, hk, hv⟩, fun i hi => by simp at hi⟩
  | i :: l, s, n, h, hg => by
    have hgl : ∀ i ∈ l, i.op = 8 → 0 ≤ i.n ∧ i.n < gr := fun j hj => hg j (List.mem_cons_of_mem _ hj)
    unfold slotP
    split
    · rename_i hc
      obtain ⟨h8, hlt⟩ := hc
      obtain ⟨q1, q2⟩ := hg i (List.mem_cons_self ..) h8
      obtain ⟨y, hy⟩ : ∃ y, s[i.n.toNat]? = some y := ⟨_, List.getElem?_eq_getElem (by rw [h.len]; omega)⟩
      have hyl : y < 0 := by rw [List.getD_eq_getElem?_getD, hy] at hlt; simpa using hlt
      have hn : 0 ≤ n := by have := h.cnt; omega
      obtain ⟨ih1, ih2, ih3⟩ := slotP_inv l _ _ (slI_set h hy hyl) hgl
      refine ⟨ih1, fun k v hk hv => ?_, fun j hj hj8 => ?_⟩
      · by_cases hkk : i.n.toNat = k
        · subst hkk
          exact ih2 _ n (by rw [List.getElem?_set, if_pos rfl, if_pos (by rw [h.len]; omega)]) hn
        · exact ih2 k v (by rw [List.getElem?_set, if_neg hkk]; exact hk) hv
      · rcases List.mem_cons.1 hj with rfl | hj
        · exact ih2 _ n (by rw [List.getElem?_set, if_pos rfl, if_pos (by rw [h.len]; omega)]) hn
        · exact ih3 j hj hj8
    · rename_i hc
      obtain ⟨ih1, ih2, ih3⟩ := slotP_inv l s n h hgl
      refine ⟨ih1, ih2, fun j hj hj8 => ?_⟩
      rcases List.mem_cons.1 hj with rfl | hj
      · obtain ⟨q1, q2⟩ := hg j (List.mem_cons_self ..) hj8
        obtain ⟨y, hy⟩ : ∃ y, s[j.n.toNat]? = some y := ⟨_, List.getElem?_eq_getElem (by rw [h.len]; omega)⟩
        have hyl : 0 ≤ y := by
          have : ¬ (s.getD j.n.toNat 0 < 0) := fun h => hc ⟨hj8, h⟩
          rw [List.getD_eq_getElem?_getD, hy] at this
          simpa using this
        exact ih2 _ y hy hyl
      · exact ih3 j hj hj8
theorem mostP_inv : ∀ (l : List Ins) (m : List Int), (∀ i ∈ l, i.op = 10 → 0 ≤ i.mn ∧ i.mn ≤ 255 ∧ i.mx ≤ 255) → (∀ v ∈ m, 0 ≤ v ∧ v ≤ 1000) → (mostP l m).length = m.length ∧ ∀ v ∈ mostP l m, 0 ≤ v ∧ v ≤ 1000
  | [], m, _, h => ⟨rfl, h⟩
  | i :: l, m, hb, h => by
    have hbl := fun j hj => hb j (List.mem_cons_of_mem _ hj)
    unfold mostP
    split
    · rename_i h10
      have hq := hb i (List.mem_cons_self ..) h10
      have hgd : 0 ≤ m.getD i.n.toNat 0 ∧ m.getD i.n.toNat 0 ≤ 1000 := by
        rw [List.getD_eq_getElem?_getD]
        cases hx : m[i.n.toNat]? with
        | none => simp
        | some x => exact h x (List.mem_of_getElem? hx)
      have ih := mostP_inv l (m.set i.n.toNat (max (max (m.getD i.n.toNat 0) i.mx) (i.mn + 1))) hbl (fun v hv => by
        rcases List.mem_or_eq_of_mem_set hv with hv | rfl
        · exact h v hv
        · omega)
      rw [List.length_set] at ih
      exact ih
    · exact mostP_inv l m hbl h
def slotN (ins : List Ins) (gr : Nat) : List Int := (slotP ins (List.replicate gr (-1)) 0).1
def mostN (ins : List Ins) (co : Nat) : List Int := mostP ins (List.replicate co 0)
def nsN (ins : List Ins) (gr : Nat) : Nat := ((slotN ins gr).filter (0 ≤ ·)).length
theorem slI0 (gr : Nat) : SlI gr (List.replicate gr (-1)) 0 := ⟨by simp, by
  have : ∀ k, (List.replicate k (-1 : Int)).filter (fun v => decide (0 ≤ v)) = [] := fun k => by
    induction k with
    | zero => rfl
    | succ k ih => rw [List.replicate_succ, List.filter_cons]; simp
  rw [this]; rfl, fun v hv => .inr (List.eq_of_mem_replicate hv)⟩
/-- The machine of a right program stands. -/
theorem new_MW {ins : List Ins} {gr co : Nat} {fo pl : Bool} {live : List (List Lv)} (hr : rightE ins gr co = 0) (hsh : Shp ins.length (nsN ins gr) live) : MW ⟨ins, fo, pl, slotN ins gr, mostN ins co, live⟩ := by
  obtain ⟨h1, h2, h3, h4, h5⟩ := right_ok hr
  have hF : ∀ (k : Nat) (i : Ins), ins[k]? = some i → FineI ins.length gr co k i := fun k i hi => fine_ok (h5 k i hi)
  have hFm : ∀ i ∈ ins, ∃ k, FineI ins.length gr co k i := fun i hi => by
    obtain ⟨k, hk, rfl⟩ := List.getElem_of_mem hi
    exact ⟨k, hF k _ (List.getElem?_eq_getElem hk)⟩
  obtain ⟨s1, s2, s3⟩ := slotP_inv ins _ _ (slI0 gr) (fun i hi h8 => by obtain ⟨k, hk⟩ := hFm i hi; exact hk.g (.inr (.inr h8)))
  obtain ⟨m1, m2⟩ := mostP_inv ins (List.replicate co 0) (fun i hi h10 => by obtain ⟨k, hk⟩ := hFm i hi; have := hk.b h10; omega) (fun v hv => by rw [List.eq_of_mem_replicate hv]; omega)
  rw [List.length_replicate] at m1
  have hcn : ((nsN ins gr : Nat) : Int) = (slotP ins (List.replicate gr (-1)) 0).2 := s1.cnt
  have hnsl : nsN ins gr ≤ gr := by
    have : nsN ins gr ≤ (slotN ins gr).length := List.length_filter_le _ _
    rw [show (slotN ins gr).length = gr from s1.len] at this
    exact this
  refine ⟨h1, fun k i hi => ?_, by show nsN ins gr ≤ 1000; omega, by show (mostN ins co).length ≤ 1000; rw [show (mostN ins co).length = co from m1]; omega, by show (slotN ins gr).length ≤ 1000; rw [show (slotN ins gr).length = gr from s1.len]; omega, fun v hv => by have := m2 v hv; omega, hsh.n, fun k r hk => Nat.le_of_eq (hsh.r k r hk).symm⟩
  have f := hF k i hi
  refine ⟨f.op, fun t ht => ?_, fun h => ⟨(f.x (by omega)).1, (f.y h).1⟩, fun h => (f.x (by omega)).1, fun h => ?_, fun h => ?_⟩
  · unfold leadsS at ht
    split at ht
    · rename_i ho
      have hx := f.x (by omega)
      have hy := f.y ho
      simp only [List.mem_cons, List.not_mem_nil, or_false] at ht
      show t < ins.length
      omega
    · split at ht
      · rename_i ho
        have hx := f.x (by omega)
        simp only [List.mem_cons, List.not_mem_nil, or_false] at ht
        show t < ins.length
        omega
      · split at ht
        · cases ht
        · simp only [List.mem_cons, List.not_mem_nil, or_false] at ht
          subst ht
          exact f.nx (by omega) (by omega) (by omega) (by omega)
  · obtain ⟨q1, q2⟩ := f.g h
    obtain ⟨v, hv⟩ : ∃ v, (slotN ins gr)[i.n.toNat]? = some v := ⟨_, List.getElem?_eq_getElem (by rw [show (slotN ins gr).length = gr from s1.len]; omega)⟩
    have hb := s1.bd v (List.mem_of_getElem? hv)
    have hns : (nsS ⟨ins, fo, pl, slotN ins gr, mostN ins co, live⟩ : Int) = (slotP ins (List.replicate gr (-1)) 0).2 := hcn
    refine ⟨q1, v, hv, by omega, fun h8 => ?_⟩
    obtain ⟨v', hv', h0⟩ := s3 i (List.mem_of_getElem? hi) h8
    have : (slotN ins gr)[i.n.toNat]? = some v' := hv'
    rw [hv] at this
    injection this with this
    omega
  · obtain ⟨q1, q2⟩ := f.c h
    refine ⟨q1, ?_⟩
    show i.n.toNat < (mostN ins co).length
    rw [show (mostN ins co).length = co from m1]
    omega
theorem new_mk {ins : List Ins} {gr co : Nat} (hr : rightE ins gr co = 0) : MkOk ins (slotN ins gr) := by
  obtain ⟨h1, h2, h3, h4, h5⟩ := right_ok hr
  have hF : ∀ (k : Nat) (i : Ins), ins[k]? = some i → FineI ins.length gr co k i := fun k i hi => fine_ok (h5 k i hi)
  have hFm : ∀ i ∈ ins, ∃ k, FineI ins.length gr co k i := fun i hi => by
    obtain ⟨k, hk, rfl⟩ := List.getElem_of_mem hi
    exact ⟨k, hF k _ (List.getElem?_eq_getElem hk)⟩
  obtain ⟨s1, _, _⟩ := slotP_inv ins _ _ (slI0 gr) (fun i hi h8 => by obtain ⟨k, hk⟩ := hFm i hi; exact hk.g (.inr (.inr h8)))
  have hw := new_MW (fo := false) (pl := false) hr (live0_shp ins.length (nsN ins gr))
  refine ⟨fun k i hi => ⟨?_, (hw.ok k i hi).tgt⟩, fun k i hi h => ?_, h1, h4⟩
  · have f := hF k i hi
    unfold leadsI leadsS
    split
    · rename_i ho
      have hx := f.x (by omega)
      have hy := f.y ho
      simp only [List.map_cons, List.map_nil]
      rw [Int.toNat_of_nonneg hx.1, Int.toNat_of_nonneg hy.1]
    · split
      · rename_i ho
        have hx := f.x (by omega)
        simp only [List.map_cons, List.map_nil]
        rw [Int.toNat_of_nonneg hx.1]
      · split
        · rfl
        · rfl
  · obtain ⟨q1, q2⟩ := (hF k i hi).g h
    exact ⟨q1, by rw [show (slotN ins gr).length = gr from s1.len]; omega⟩
end Go.Proofs.Ytoadmpochaeohaa
end

section
set_option linter.unusedVariables false
set_option linter.unusedSimpArgs false
set_option maxRecDepth 100000
namespace Go.Proofs.Ytoadmpochaeohaa
open Go.RowKit

theorem pushM {E D : Nat → Prop} {b g bm : Nat} {s : Stt} {m : Mc} {line : ByteArray} {pile : List Fr} {seen : List Key} {steps kept : Nat} {w : World} (ty : TypeId) (xv : Value) (f : Fr)
    (h : MM w E D b g bm s m line pile seen steps kept) (hf : FrV w D f (.iface ty xv)) (hb : pile.length ≤ 1073741824) :
    Calls Try.prog 53 #[.pointer (some ⟨g, 0, none⟩), .iface ty xv] w fun e w' => e = .returned (.tuple #[]) ∧ MM w' (fun k => E k ∨ w.heap.size ≤ k) (fun k => D k ∧ k < w.heap.size) b g bm s m line (f :: pile) seen steps kept ∧ Frm (fun k => E k ∧ k ≠ b ∧ k ≠ bm) w w' := by
  obtain ⟨vs, h1, h2⟩ := h.ps
  have hlen : vs.reverse.length ≤ 1073741824 := by rw [List.length_reverse, ← h2.length_eq]; exact hb
  refine (pushB _ g vs.reverse ty xv w h1 hlen).mono ?_
  rintro e w' ⟨rfl, p1, p2⟩
  have hbl := h.obj.lt
  have hml := h.map.lt
  have hd : ∀ k, D k → ¬ (E k ∧ k ≠ b ∧ k ≠ bm) := fun k hk he => h.apart k hk he.1
  refine ⟨rfl, ⟨h.obj.frm p2 (fun h => h.2.1 rfl), .inl h.bE, .inl h.mE, h.ne, ⟨.iface ty xv :: vs, ?_, ?_⟩, h.map.frm p2 (fun h => h.2.2 rfl), (h.sta.mono fun k hk hl => ⟨hk, hl⟩).frm p2 (fun k hk => hd k hk.1), fun k hk he => ?_⟩, p2⟩
  · rw [List.reverse_cons]
    exact p1.mono fun k hk _ => by rcases hk with hk | hk; exact ⟨.inl hk.1, hk.2⟩; exact ⟨.inr hk, by omega, by omega⟩
  · exact .cons ((hf.mono fun k hk hl => ⟨hk, hl⟩).frm p2 (fun k hk => hd k hk.1)) (forall2_mono (fun a b hh => (hh.mono fun k hk hl => ⟨hk, hl⟩).frm p2 (fun k hk => hd k hk.1)) h2)
  · rcases he with he | he
    · exact h.apart k hk.1 he
    · omega
theorem MM.setMap {w w' : World} {E D : Nat → Prop} {b g bm : Nat} {s : Stt} {m : Mc} {line : ByteArray} {pile : List Fr} {seen seen' : List Key} {steps kept : Nat} (h : MM w E D b g bm s m line pile seen steps kept) (f : Frm (fun k => k = bm) w w') (hs : SM w' bm seen') : MM w' E D b g bm s m line pile seen' steps kept := by
  obtain ⟨vs, h1, h2⟩ := h.ps
  have hd : ∀ k, D k → ¬ (k = bm) := fun k hk e => h.apart k hk (e ▸ h.mE)
  exact ⟨h.obj.frm f h.ne, h.bE, h.mE, h.ne, ⟨vs, h1.frm f (fun k hk => hk.2.2), forall2_mono (fun a b hh => hh.frm f hd) h2⟩, hs, h.sta.frm f hd, h.apart⟩
/-- A number of the object is written. -/
theorem MM.setObj {w w' : World} {E D : Nat → Prop} {b g bm : Nat} {s : Stt} {m : Mc} {line : ByteArray} {pile : List Fr} {seen : List Key} {steps kept steps' kept' : Nat} (h : MM w E D b g bm s m line pile seen steps kept) (f : Frm (fun k => k = b) w w') (hs : Blk w' b (cellsB s m (.map (some bm)) (.pointer (some ⟨g, 0, none⟩)) line steps' kept') 78) : MM w' E D b g bm s m line pile seen steps' kept' := by
  obtain ⟨vs, h1, h2⟩ := h.ps
  have hd : ∀ k, D k → ¬ (k = b) := fun k hk e => h.apart k hk (e ▸ h.bE)
  exact ⟨hs, h.bE, h.mE, h.ne, ⟨vs, h1.frm f (fun k hk => hk.2.1), forall2_mono (fun a b hh => hh.frm f hd) h2⟩, h.map.frm f (fun e => h.ne e.symm), h.sta.frm f hd, h.apart⟩
theorem Lk.eff {w : World} {E D : Nat → Prop} {w1 w2 : World} {E1 D1 S : Nat → Prop} (h : Lk w E D w1 E1 D1) (f : Frm S w1 w2) (hS : ∀ k, S k → E1 k) : Lk w E D w2 E1 D1 :=
  ⟨h.e, h.d, h.f.then f (fun k hk hl => by rcases h.e k (hS k hk) with h | h; exact h; omega)⟩
theorem keyS_len (m : Mc) (c : Cf) : (keyS m c).length = 8 + 12 * c.parts.length + 4 * c.turns.length := by
  unfold keyS
  rw [List.length_append, List.length_append, List.length_append, keyPs_len, keyTn_len]
  rfl
/-- What fresh leaves. -/
def FreshPost (w : World) (E D : Nat → Prop) (b g bm : Nat) (s : Stt) (m : Mc) (line : ByteArray) (pile : List Fr) (seen : List Key) (steps kept : Nat) (c : Cf) (e : Ending) (w' : World) : Prop :=
  if keyS m c ∈ seen then e = .returned (.bool false) ∧ MX w E D w' b g bm s m line pile seen steps kept
  else e = .returned (.bool true) ∧ MX w E D w' b g bm s m line (if m.plain then .leave (keyS m c) :: pile else pile) (keyS m c :: seen) steps (if m.plain then kept else max kept (seen.length + 1))

set_option maxHeartbeats 16000000 in
theorem freshM {E D : Nat → Prop} {b g bm : Nat} {s : Stt} {m : Mc} {line : ByteArray} {pile : List Fr} {seen : List Key} {steps kept : Nat} {A B : Option Addr} {n cA k d : Nat} {w : World} (c : Cf) (hW : MW m) (hcw : CW m line.size c)
    (hM : MM w E D b g bm s m line pile seen steps kept) (hc : CfR w D c.parts c.turns A n cA B k d) (hb : pile.length ≤ 1073741000) (hls : line.size ≤ 900000) (hsl : seen.length ≤ 1073741000) (hkp : kept ≤ 4611686018427387904) :
    Calls Try.prog 55 #[.pointer (some ⟨b, 0, none⟩), .agg #[.int .i64 c.pc, .int .i64 c.at_, .slice A n cA, .slice B k d]] w (FreshPost w E D b g bm s m line pile seen steps kept c) := by
  obtain ⟨pc, at_, parts, turns⟩ := c
  have hpc := hcw.pc
  have hat := hcw.at_
  simp only at hc hpc hat ⊢
  obtain ⟨lvs, hlv⟩ : ∃ r, m.live[pc]? = some r := ⟨_, List.getElem?_eq_getElem (by rw [hW.live]; exact hpc)⟩
  have hkd : keyS m ⟨pc, at_, parts, turns⟩ = put4 pc ++ put4 at_ ++ keyPs lvs 0 parts ++ turns.flatMap (keyTn at_) := by
    unfold keyS
    simp only [List.getD_eq_getElem?_getD, hlv, Option.getD_some]
  have hkl := keyS_len m ⟨pc, at_, parts, turns⟩
  have hnp : parts.length = nsS m := hcw.np
  have hnt : turns.length = m.most.length := hcw.nt
  have hns := hW.ns
  have hnm := hW.nm
  simp only at hkl
  have hkl2 : (keyS m ⟨pc, at_, parts, turns⟩).length ≤ 100000 := by omega
  have hX := Blk.new w [.int .i64 pc, .int .i64 at_, .slice A n cA, .slice B k d] 129
  have hf0 : Frm (fun _ => False) w (w.alloc (.cells #[.int .i64 pc, .int .i64 at_, .slice A n cA, .slice B k d] 129)) := (Frm.refl _ w).alloc _
  obtain ⟨E1, D1, hL, hM0, hC0, hEl, hDl⟩ := hM.start hc
  have hM1 := hM0.frm hf0
  have hC1 := hC0.frm hf0 (fun _ _ h => h)
  have hL1 := hL.quiet hf0
  have hpn : n = parts.length := by have := hc.p.len; rw [flatP_len] at this; omega
  have htk : k = turns.length := by have := hc.t.len; rw [flatN_len] at this; omega
  have HKC := Lib.hid (keyC b _ s.LA s.ln s.lc m.live pc at_ A B n cA k d parts turns lvs D1 _ hM1.obj rfl hM1.sta.live hlv (by have := hW.row _ _ hlv; omega) hC1.p hC1.t (by omega) (by omega) (by have := hW.ni; omega) (by omega)
    (fun p hp => by have := hcw.p p hp; simp only at this; omega) (fun t ht => by have := hcw.t t ht; simp only at this; omega))
  rw [← hkd] at HKC
  obtain ⟨P, hP⟩ : ∃ P, FreshPost w E D b g bm s m line pile seen steps kept ⟨pc, at_, parts, turns⟩ = P := ⟨_, rfl⟩
  rw [hP]
  have HP := Lib.hid hP
  clear hP hkd hlv hC0 hM0 hL hpn htk hnp hnt hkl hns hnm
  generalize hK : keyS m ⟨pc, at_, parts, turns⟩ = K at *
  have HK := Lib.hid hK
  clear hK
  go_enter Try.func55, Try.ntmps55
  go_upto_region 1 with fail
  generalize w.alloc (.cells #[.int .i64 pc, .int .i64 at_, .slice A n cA, .slice B k d] 129) = w1 at *
  generalize hbX : w.heap.size = bX at *
  have HBX := Lib.hid hbX
  clear hbX
  obtain ⟨x0, x1, x2, x3, y0, y1, y2, y3, lx⟩ := blk4 hX
  go_wp2_with fail
  refine HKC.out.mono ?_
  rintro e w2 ⟨rfl, hf2⟩
  have hM2 := hM1.frm hf2
  have hL2 := hL1.quiet hf2
  have hlook := hM2.map.look K hkl2
  unfold kV at hlook
  obtain ⟨SB, hSB⟩ : ∃ SB : ByteArray, (⟨K.toArray⟩ : ByteArray) = SB := ⟨_, rfl⟩
  rw [hSB] at hlook ⊢
  have HSB := Lib.hid hSB
  have HL2 := Lib.hid hL2
  clear hSB hL2 hL1 hM1 hf2 hf0 x0 x1 x2 x3 y0 y1 y2 y3 lx hX hC1
  have b8 := hM2.obj.cell 8
  have b4 := hM2.obj.cell 4
  have b9 := hM2.obj.cell 9
  have b12 := hM2.obj.cell 12
  have b12f := hM2.obj.frozen 12
  simp only [cellsB, List.getElem?_cons_zero, List.getElem?_cons_succ] at b8 b4 b9 b12
  have lb := hM2.obj.lt
  by_cases hin : K ∈ seen
  · rw [if_pos hin] at hlook
    go_wp2_with fail
    rw [← HP.out]
    unfold FreshPost
    rw [HK.out, if_pos hin]
    exact ⟨rfl, HL2.out.mx hM2⟩
  · rw [if_neg hin] at hlook
    obtain ⟨w3, hst, hsm3, hf3⟩ := hM2.map.store K hkl2 hin (by omega)
    unfold kV at hst
    rw [HSB.out] at hst
    go_upto_region 5 with fail
    have hM3 := hM2.setMap hf3 hsm3
    have HL3 := Lib.hid (HL2.out.eff hf3 (fun k h => h ▸ hM2.mE))
    clear b8 b4 b9 b12 b12f lb hf3 hlook hst
    have b8 := hM3.obj.cell 8
    have b4 := hM3.obj.cell 4
    have b9 := hM3.obj.cell 9
    have b12 := hM3.obj.cell 12
    have b12f := hM3.obj.frozen 12
    simp only [cellsB, List.getElem?_cons_zero, List.getElem?_cons_succ] at b8 b4 b9 b12
    have lb := hM3.obj.lt
    obtain ⟨pl, hpl⟩ : ∃ pl, m.plain = pl := ⟨_, rfl⟩
    rw [hpl] at b4
    have HPL := Lib.hid hpl
    clear hpl
    cases pl with
    | true =>
      have HPU := Lib.hid (pushM 140 (.agg #[.string SB]) (.leave K) hM3 (by show _ = _; unfold kV; rw [HSB.out]) (by omega))
      go_wp2_with fail
      refine HPU.out.mono ?_
      rintro e w9 ⟨rfl, hM9, hf9⟩
      go_wp2_with fail
      rw [← HP.out]
      unfold FreshPost
      rw [HK.out, if_neg hin, HPL.out, if_pos rfl, if_pos rfl]
      exact ⟨rfl, (HL3.out.push hf9 (fun k h => h.1)).mx hM9⟩
    | false =>
      have hlen : ∀ ty, (Builtin.len_ #[75] ty #[.map (some bm)]).run Try.prog w3.drew = .ok (.int .i64 ((seen.length + 1 : Nat) : Int)) w3.drew := fun ty => (hM3.map.frm (S := fun _ => False) ((Frm.refl _ _).drew) (fun h => h)).len ty
      obtain ⟨SL, hSL⟩ : ∃ SL : Nat, seen.length + 1 = SL := ⟨_, rfl⟩
      rw [hSL] at hlen
      have HSL := Lib.hid hSL
      clear hSL
      have hmax : ∀ (w : World) (ty : TypeId), (Builtin.max_ #[3, 3] ty #[.int .i64 kept, .int .i64 SL]).run Try.prog w = .ok (.int .i64 ((max kept SL : Nat) : Int)) w := fun w ty => by
        have hm : (if kept < SL then (SL : Int) else kept) = ((max kept SL : Nat) : Int) := by rw [Nat.max_def]; split <;> split <;> omega
        simp [Builtin.max_, Builtin.max2, hm]
      have hB9 := (hM3.obj.setSame 12 (.int .i64 ((max kept SL : Nat) : Int))).drew
      have hf9 : Frm (fun k => k = b) w3 (w3.setCell ⟨b, 12, none⟩ (.int .i64 ((max kept SL : Nat) : Int))).drew := ((Frm.refl (fun k => k = b) w3).set b 12 _ (fun _ => rfl)).drew
      obtain ⟨KM, hKM⟩ : ∃ KM : Nat, max kept SL = KM := ⟨_, rfl⟩
      rw [hKM] at hB9 hf9
      simp only [hKM] at hmax
      have HKM := Lib.hid hKM
      clear hKM
      go_wp2_with fail
      go_region
      all_goals
        go_wp2_with fail
        rw [← HP.out]
        unfold FreshPost
        rw [HK.out, if_neg hin, HPL.out, if_neg (by simp), if_neg (by simp), HSL.out, HKM.out]
        exact ⟨rfl, (HL3.out.eff hf9 (fun k h => h ▸ hM3.bE)).mx (hM3.setObj hf9 hB9)⟩
end Go.Proofs.Ytoadmpochaeohaa
end
