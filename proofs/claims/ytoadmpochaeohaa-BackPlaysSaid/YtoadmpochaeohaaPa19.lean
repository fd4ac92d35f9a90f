/-
  Layer 20: New, walked.
-/
import Derived.Test.YtoadmpochaeohaaPa16
import Derived.Test.YtoadmpochaeohaaPa18
import Derived.Test.YtoadmpochaeohaaPa3
section
set_option linter.unusedVariables false
set_option linter.unusedSimpArgs false
set_option maxRecDepth 100000
namespace Go.Proofs.Ytoadmpochaeohaa
open Go.RowKit

theorem made1 (z : Value) (n : Nat) : madeCells #[z] n = (List.replicate n z).toArray := by
  apply Array.ext <;> simp [madeCells, Nat.mod_one]
theorem made2 (z : Value) (n : Nat) : madeCells #[z, z] n = (List.replicate n z).toArray := by
  apply Array.ext
  · simp [madeCells]
  · intro i h1 h2
    have : i % 2 = 0 ∨ i % 2 = 1 := by omega
    simp only [madeCells, Array.getElem_map, Array.getElem_range, List.getElem_toArray, List.getElem_replicate]
    rcases this with h | h <;> simp [h]
theorem info79 : (Try.prog.info? 79).map (fun i => (i.zero, i.size, i.bytes)) = some (some (.slice none 0 0), 1, 24) := by kernel_rfl
theorem info101 : (Try.prog.info? 101).map (fun i => (i.zero, i.size, i.bytes)) = some (some (.agg #[.bool false, .bool false]), 2, 2) := by kernel_rfl
theorem mk73 (n : Nat) (hn : n ≤ 1048576) (w : World) : (Instr.makeSlice 73 (.int .i64 n) (.int .i64 n)).run Try.prog w = .ok (.slice (some ⟨w.heap.size, 0, none⟩) n n) (w.alloc (.cells (List.replicate n (.int .i64 0)).toArray 3)) := by
  rw [← made1]
  exact run_make_row' 73 3 (.int .i64 0) 8 Try.underlying73 infoInt rfl .i64 .i64 n (by omega) (by omega) w
theorem mk74 (n : Nat) (hn : n ≤ 1048576) (w : World) : (Instr.makeSlice 74 (.int .i64 n) (.int .i64 n)).run Try.prog w = .ok (.slice (some ⟨w.heap.size, 0, none⟩) n n) (w.alloc (.cells (List.replicate n (.slice none 0 0)).toArray 79)) := by
  rw [← made1]
  exact run_make_row' 74 79 (.slice none 0 0) 24 Try.underlying74 info79 rfl .i64 .i64 n (by omega) (by omega) w
theorem mk79 (n : Nat) (hn : n ≤ 1048576) (w : World) : (Instr.makeSlice 79 (.int .i64 n) (.int .i64 n)).run Try.prog w = .ok (.slice (some ⟨w.heap.size, 0, none⟩) n n) (w.alloc (.cells (List.replicate (n * 2) (.bool false)).toArray 101)) := by
  obtain ⟨i, hi, hz0, hz1, hz2⟩ := info_parts info101
  have h := run_make (P := Try.prog) w 79 101 i (.agg #[.bool false, .bool false]) Try.underlying79 hi hz0 .i64 .i64 n n (by omega) (Int.le_refl _) (by rw [hz2]; omega) (by omega)
  rw [hz1] at h
  simp only [Int.toNat_natCast] at h
  rw [h, ← made2]
  rfl
theorem slotP_snoc (i : Ins) : ∀ (l : List Ins) (s : List Int) (n : Int), slotP (l ++ [i]) s n = slotP [i] (slotP l s n).1 (slotP l s n).2
  | [], s, n => rfl
  | j :: l, s, n => by
    rw [List.cons_append]
    by_cases h : j.op = 8 ∧ s.getD j.n.toNat 0 < 0
    · rw [slotP, if_pos h, slotP_snoc i l]
      conv => rhs; rw [show slotP (j :: l) s n = slotP l (s.set j.n.toNat n) (n + 1) by rw [slotP, if_pos h]]
    · rw [slotP, if_neg h, slotP_snoc i l]
      conv => rhs; rw [show slotP (j :: l) s n = slotP l s n by rw [slotP, if_neg h]]
theorem mostP_snoc (i : Ins) : ∀ (l : List Ins) (m : List Int), mostP (l ++ [i]) m = mostP [i] (mostP l m)
  | [], m => rfl
  | j :: l, m => by
    rw [List.cons_append]
    by_cases h : j.op = 10
    · rw [mostP, if_pos h, mostP_snoc i l]
      conv => rhs; rw [show mostP (j :: l) m = mostP l (m.set j.n.toNat (max (max (m.getD j.n.toNat 0) j.mx) (j.mn + 1))) by rw [mostP, if_pos h]]
    · rw [mostP, if_neg h, mostP_snoc i l]
      conv => rhs; rw [show mostP (j :: l) m = mostP l m by rw [mostP, if_neg h]]

theorem threeBlk (w : World) (x y z : List Value) (X Y : Array Value) (hx : X = x.toArray) (hy : Y = y.toArray) :
    Blk (((w.alloc (.cells X 3)).alloc (.cells Y 3)).alloc (.cells z.toArray 78)).drew w.heap.size x 3 ∧ Blk (((w.alloc (.cells X 3)).alloc (.cells Y 3)).alloc (.cells z.toArray 78)).drew (w.heap.size + 1) y 3 ∧
    Blk (((w.alloc (.cells X 3)).alloc (.cells Y 3)).alloc (.cells z.toArray 78)).drew (w.heap.size + 1 + 1) z 78 ∧ Frm (fun _ => False) w (((w.alloc (.cells X 3)).alloc (.cells Y 3)).alloc (.cells z.toArray 78)).drew := by
  subst hx hy
  have e1 : (w.alloc (.cells x.toArray 3)).heap.size = w.heap.size + 1 := by unfold World.alloc; exact Array.size_push _
  have e2 : ((w.alloc (.cells x.toArray 3)).alloc (.cells y.toArray 3)).heap.size = w.heap.size + 1 + 1 := by rw [← e1]; unfold World.alloc; exact Array.size_push _
  refine ⟨(((Blk.new w x 3).alloc _).alloc _).drew, ?_, ?_, ((((Frm.refl _ _).alloc _).alloc _).alloc _).drew⟩
  · rw [← e1]; exact ((Blk.new _ y 3).alloc _).drew
  · rw [← e2]; exact (Blk.new _ z 78).drew
/-- Between two slots. -/
def N1 (w0 : World) (bs gr : Nat) (i : Value) (wr : World) : Prop := ∃ k : Nat, i = .int .i64 k ∧ k ≤ gr ∧ Frm (fun q => q = bs) w0 wr ∧ Blk wr bs ((List.replicate k (-1 : Int) ++ List.replicate (gr - k) 0).map I64) 3
/-- Between two instructions. -/
def N2 (w0 : World) (bs bm gr co : Nat) (ins : List Ins) (nv i : Value) (wr : World) : Prop :=
  ∃ k : Nat, i = .int .i64 k ∧ k ≤ ins.length ∧ nv = .int .i64 (slotP (ins.take k) (List.replicate gr (-1)) 0).2 ∧ Frm (fun q => q = bs ∨ q = bm) w0 wr ∧
    Blk wr bs ((slotP (ins.take k) (List.replicate gr (-1)) 0).1.map I64) 3 ∧ Blk wr bm ((mostP (ins.take k) (List.replicate co 0)).map I64) 3
/-- Between two rows. -/
def N3 (w0 : World) (bL n ns : Nat) (i : Value) (wr : World) : Prop :=
  ∃ (k : Nat) (rbs : List Nat), i = .int .i64 k ∧ k ≤ n ∧ rbs.length = k ∧ Frm (fun q => q = bL) w0 wr ∧ Blk wr bL (rbs.map (fun rb => .slice (some ⟨rb, 0, none⟩) ns ns) ++ List.replicate (n - k) (.slice none 0 0)) 79 ∧
    (∀ rb, rb ∈ rbs → w0.heap.size ≤ rb ∧ rb < wr.heap.size ∧ Blk wr rb (List.replicate (ns * 2) (.bool false)) 101) ∧ rbs.Nodup
theorem flatL_zero (n : Nat) : flatL (List.replicate n ⟨false, false⟩) = List.replicate (n * 2) (.bool false) := by
  induction n with
  | zero => rfl
  | succ n ih => rw [List.replicate_succ, show (n + 1) * 2 = n * 2 + 1 + 1 by omega, List.replicate_succ, List.replicate_succ, ← ih]; rfl
theorem Blk.rd1 {w : World} {F : Nat → Prop} {g : Nat} {cur : List Value} {t : TypeId} {n size : Nat} (h : Blk w g cur t) (hF : F g) (hn : cur.length = n * size) : Rd w F size (some ⟨g, 0, none⟩) n n cur :=
  ⟨hn, Nat.le_refl _, fun h => (by cases h), fun _ => ⟨g, 0, rfl, hF, h.lt, fun j u hj => by rw [h.cell, Nat.zero_add]; exact hj⟩⟩
theorem LvW.lvm {w : World} {G D : Nat → Prop} {bL : Nat} {rbs : List Nat} {n ns : Nat} {live : List (List Lv)} (h : LvW w G bL rbs ns live) (hs : Shp n ns live) (hL : D bL) (hr : ∀ rb, rb ∈ rbs → D rb) : LvM w D (some ⟨bL, 0, none⟩) n n live := by
  refine ⟨rbs.map fun rb => .slice (some ⟨rb, 0, none⟩) ns ns, h.out.rd1 hL (by rw [List.length_map, h.len, hs.n, Nat.mul_one]), fun k r hk => ?_⟩
  have hkl := (List.getElem?_eq_some_iff.1 hk).1
  obtain ⟨rb, hrb⟩ : ∃ rb, rbs[k]? = some rb := ⟨_, List.getElem?_eq_getElem (by rw [h.len]; exact hkl)⟩
  refine ⟨some ⟨rb, 0, none⟩, ns, ns, by rw [List.getElem?_map, hrb]; rfl, (h.row k r rb hk hrb).rd1 (hr rb (List.mem_of_getElem? hrb)) (by rw [flatL_len, hs.r k r hk])⟩
/-- What New hands back. -/
def NewPost (w : World) (ins : List Ins) (gr co : Nat) (fo pl : Bool) (e : Ending) (w' : World) : Prop :=
  ∃ (b : Nat) (st : Stt) (t : Nat) (D : Nat → Prop), e = .returned (.tuple #[.pointer (some ⟨b, 0, none⟩), .int .i64 0]) ∧
    Idle w' D b st ⟨ins, fo, pl, slotN ins gr, mostN ins co, iterM (sweepM ins (slotN ins gr) (nsN ins gr) ins.length) t (live0 ins.length (nsN ins gr))⟩ 0 0 ∧
    sweepM ins (slotN ins gr) (nsN ins gr) ins.length (iterM (sweepM ins (slotN ins gr) (nsN ins gr) ins.length) t (live0 ins.length (nsN ins gr))) = iterM (sweepM ins (slotN ins gr) (nsN ins gr) ins.length) t (live0 ins.length (nsN ins gr)) ∧
    Shp ins.length (nsN ins gr) (iterM (sweepM ins (slotN ins gr) (nsN ins gr) ins.length) t (live0 ins.length (nsN ins gr))) ∧ w.heap.size ≤ b ∧ (∀ k, D k → w.heap.size ≤ k) ∧ Frm (fun _ => False) w w'

set_option maxHeartbeats 4000000 in
theorem newBad (A : Option Addr) (n cp : Nat) (gr co : Int) (fo pl : Bool) (ins : List Ins) (G : Nat → Prop) (w : World) (hrd : Rd w G 10 A n cp (flatI ins)) (hr : rightE ins gr co ≠ 0) :
    Calls Try.prog 12 #[.agg #[.slice A n cp, .int .i64 gr, .int .i64 co, .bool fo], .bool pl] w fun e w' => e = .returned (.tuple #[.pointer none, .int .i64 (rightE ins gr co)]) ∧ Frm (fun _ => False) w w' := by
  have hP := Blk.new w [.slice A n cp, .int .i64 gr, .int .i64 co, .bool fo] 24
  have hf0 : Frm (fun _ => False) w (w.alloc (.cells #[.slice A n cp, .int .i64 gr, .int .i64 co, .bool fo] 24)) := (Frm.refl _ w).alloc _
  have HRC := Lib.hid (rightC A n cp gr co fo ins G _ (hrd.frm hf0 (fun _ _ h => h)))
  obtain ⟨re, hre⟩ : ∃ re, rightE ins gr co = re := ⟨_, rfl⟩
  rw [hre] at hr HRC ⊢
  have d1 : (re != 0) = true := by simpa using hr
  clear hre hrd
  go_enter Try.func12, Try.ntmps12
  go_upto_region 1 with fail
  generalize w.alloc (.cells #[.slice A n cp, .int .i64 gr, .int .i64 co, .bool fo] 24) = w1 at *
  generalize w.heap.size = bP at *
  obtain ⟨x0, x1, x2, x3, y0, y1, y2, y3, lx⟩ := blk4 hP
  go_wp2_with fail
  refine HRC.out.mono ?_
  rintro e w2 ⟨⟨k, rfl⟩, hf2⟩
  go_wp2_with fail
  go_ret2
  exact ⟨rfl, hf0.trans hf2⟩

set_option maxHeartbeats 16000000 in
theorem newOk (A : Option Addr) (n cp gr co : Nat) (fo pl : Bool) (ins : List Ins) (G : Nat → Prop) (w : World) (hrd : Rd w G 10 A n cp (flatI ins)) (hr : rightE ins gr co = 0) :
    Calls Try.prog 12 #[.agg #[.slice A n cp, .int .i64 gr, .int .i64 co, .bool fo], .bool pl] w (NewPost w ins gr co fo pl) := by
  have hil : ins.length = n := by have := hrd.len; rw [flatI_len] at this; omega
  obtain ⟨r1, r2, r3, r4, r5⟩ := right_ok hr
  have hn4 : n ≤ 40000 := by omega
  have hgr : gr ≤ 30 := by omega
  have hco : co ≤ 40 := by omega
  have HR := Lib.hid (⟨hr, hil⟩ : _ ∧ _)
  have HFI : Hid (∀ (k : Nat) (i : Ins), ins[k]? = some i → FineI ins.length gr co k i) := Lib.hid fun k i hi => fine_ok (r5 k i hi)
  have hP := Blk.new w [.slice A n cp, .int .i64 gr, .int .i64 co, .bool fo] 24
  have hf0 : Frm (fun _ => False) w (w.alloc (.cells #[.slice A n cp, .int .i64 gr, .int .i64 co, .bool fo] 24)) := (Frm.refl _ w).alloc _
  have HRC := Lib.hid (rightC A n cp gr co fo ins G _ (hrd.frm hf0 (fun _ _ h => h)))
  rw [hr] at HRC
  have hrd1 := hrd.frm hf0 (fun _ _ h => h)
  obtain ⟨PO, hPO⟩ : ∃ PO, NewPost w ins gr co fo pl = PO := ⟨_, rfl⟩
  rw [hPO]
  have HPO := Lib.hid hPO
  clear hPO hrd hr hil r1 r2 r3 r4 r5
  go_enter Try.func12, Try.ntmps12
  go_upto_region 1 with fail
  generalize w.alloc (.cells #[.slice A n cp, .int .i64 gr, .int .i64 co, .bool fo] 24) = w1 at *
  obtain ⟨bP, hbP⟩ : ∃ bP, w.heap.size = bP := ⟨_, rfl⟩
  simp only [hbP] at hP ⊢
  have HBP := Lib.hid hbP
  clear hbP
  obtain ⟨x0, x1, x2, x3, y0, y1, y2, y3, lx⟩ := blk4 hP
  go_wp2_with fail
  refine HRC.out.mono ?_
  rintro e w2 ⟨⟨kk, rfl⟩, hf2⟩
  have hP2 := hP.frm hf2 (fun h => h)
  have HCI := Lib.hid (cloneI A n cp ins G w2 (hrd1.frm hf2 (fun _ _ h => h)) (by omega))
  have hf02 := hf0.trans hf2
  have hz2 := hf2.size
  have hlP := hP.lt
  clear x0 x1 x2 x3 y0 y1 y2 y3 lx hP hf0 hf2 hrd1 HRC
  obtain ⟨x0, x1, x2, x3, y0, y1, y2, y3, lx⟩ := blk4 hP2
  go_wp2_with fail
  refine HCI.out.mono ?_
  rintro e w3 ⟨B, dB, rfl, hs3, hf3⟩
  have hP3 := hP2.frm hf3 (fun h => h)
  have hf03 := hf02.trans hf3
  have hz3 := hf3.size
  have hP4 := hP3.setSame 0 (.slice B n dB)
  have hI4 := (hs3.set bP 0 (.slice B n dB) (by omega)).rd
  have hf4 := hf03.set bP 0 (.slice B n dB) (fun h => by have := HBP.out; omega)
  simp only [List.set_cons_zero] at hP4
  clear x0 x1 x2 x3 y0 y1 y2 y3 lx hP2 hs3 hf3 HCI
  obtain ⟨x0, x1, x2, x3, y0, y1, y2, y3, lx⟩ := blk4 hP3
  go_upto_region 5 with fail
  clear x0 x1 x2 x3 y0 y1 y2 y3 lx hP3
  generalize w3.setCell ⟨bP, 0, none⟩ (.slice B n dB) = w4 at *
  obtain ⟨x0, x1, x2, x3, y0, y1, y2, y3, lx⟩ := blk4 hP4
  go_cut [8] from 26 to 35 (fun v wx => ∃ b bs bm, v = .pointer (some ⟨b, 0, none⟩) ∧ Blk wx b [.slice B n dB, .int .i64 gr, .int .i64 co, .bool fo, .bool pl, .slice (some ⟨bs, 0, none⟩) gr gr, .slice (some ⟨bm, 0, none⟩) co co, .slice none 0 0, .map none, .pointer none, .string ⟨#[]⟩, .int .i64 0, .int .i64 0] 78 ∧
    Blk wx bs (List.replicate gr (.int .i64 0)) 3 ∧ Blk wx bm (List.replicate co (.int .i64 0)) 3 ∧ bs ≠ bm ∧ w4.heap.size ≤ b ∧ w4.heap.size ≤ bs ∧ w4.heap.size ≤ bm ∧ Frm (fun _ => False) w4 wx)
  case first =>
    have hm1 := mk73 gr (by omega)
    have hm2 := mk73 co (by omega)
    go_wp2_with fail
    go_region
    all_goals
      have T1 := threeBlk w4 (List.replicate gr (.int .i64 0)) (List.replicate co (.int .i64 0)) [.slice B n dB, .int .i64 gr, .int .i64 co, .bool fo, .bool pl, .slice (some ⟨w4.heap.size, 0, none⟩) gr gr, .slice (some ⟨w4.heap.size + 1, 0, none⟩) co co, .slice none 0 0, .map none, .pointer none, .string ⟨#[]⟩, .int .i64 0, .int .i64 0] (Array.replicate gr (.int .i64 0)) (Array.replicate co (.int .i64 0)) (by simp) (by simp)
      have T2 := threeBlk w4 (List.replicate co (.int .i64 0)) (List.replicate gr (.int .i64 0)) [.slice B n dB, .int .i64 gr, .int .i64 co, .bool fo, .bool pl, .slice (some ⟨w4.heap.size + 1, 0, none⟩) gr gr, .slice (some ⟨w4.heap.size, 0, none⟩) co co, .slice none 0 0, .map none, .pointer none, .string ⟨#[]⟩, .int .i64 0, .int .i64 0] (Array.replicate co (.int .i64 0)) (Array.replicate gr (.int .i64 0)) (by simp) (by simp)
      have T := Lib.hid (⟨T1, T2⟩ : _ ∧ _)
      clear T1 T2 hm1 hm2 x0 x1 x2 x3 y0 y1 y2 y3 lx
      go_wp2_with fail
      go_meet
      first
        | exact ⟨_, _, _, rfl, T.out.1.2.2.1, T.out.1.1, T.out.1.2.1, by omega, by omega, by omega, by omega, T.out.1.2.2.2⟩
        | exact ⟨_, _, _, rfl, T.out.2.2.2.1, T.out.2.2.1, T.out.2.1, by omega, by omega, by omega, by omega, T.out.2.2.2.2⟩
  case rest =>
    obtain ⟨b, bs, bm, rfl, hb5, hs5, hm5, hsm, hl1, hl2, hl3, hf45⟩ := hcut
    obtain ⟨w5, hw5⟩ : ∃ w5, w5 = wc := ⟨_, rfl⟩
    subst hw5
    have hP5 := hP4.frm hf45 (fun h => h)
    have hI5 := hI4.low.frm hf45 (fun _ _ h => h)
    have hf5 := hf4.trans hf45
    have hz4 := hf4.size
    have hlP4 := hP4.lt
    have hbbs : b ≠ bs := hb5.ne hs5 (by decide)
    have hbbm : b ≠ bm := hb5.ne hm5 (by decide)
    have hbsb : bs ≠ b := fun e => hbbs e.symm
    have hbmb : bm ≠ b := fun e => hbbm e.symm
    have hbPs : bP ≠ bs := by omega
    have hbPm : bP ≠ bm := by omega
    have HF5 := Lib.hid (⟨hI5, hf5⟩ : _ ∧ _)
    have HP5 := Lib.hid hP5
    have HB5 := Lib.hid hb5
    have HM5 := Lib.hid hm5
    have HZ4 := Lib.hid hz4
    clear x0 x1 x2 x3 y0 y1 y2 y3 lx hP4 hI4 hf4 hf45 hI5 hf5 hm5 hf02 hz4 hf03
    have b5 := hb5.cell 5
    simp only [List.getElem?_cons_zero, List.getElem?_cons_succ] at b5
    have lb := hb5.lt
    have hn1 : N1 w5 bs gr (.int .i64 0) w5 := ⟨0, rfl, by omega, Frm.refl _ _, by simpa [I64] using hs5⟩
    have HN1 := Lib.hid hn1
    clear hn1 hs5 hb5 hP5
    go_wp2_with fail
    go_loopw [41] (fun i wr => N1 w5 bs gr i wr) (fun i _ => gr - (intOf i).toNat)
    case atStart => exact HN1.out
    case round =>
      clear HN1 b5 lb
      obtain ⟨k, rfl, hk, hfr, hs⟩ := hrel
      by_cases hkg : k < gr
      · have hbk := HB5.out.frm hfr hbbs
        have b5 := hbk.cell 5
        simp only [List.getElem?_cons_zero, List.getElem?_cons_succ] at b5
        have lb := hbk.lt
        have hlen : (List.replicate k (-1 : Int) ++ List.replicate (gr - k) 0).length = gr := by simp; omega
        have hfz := hs.frozen k
        have hls := hs.lt
        have hck : wr.cell? ⟨bs, k, none⟩ = some (.int .i64 0) := by
          rw [hs.cell, List.getElem?_map, List.getElem?_append_right (by simp), List.length_replicate, Nat.sub_self, List.getElem?_replicate, if_pos (by omega)]; rfl
        have hs2 := hs.setSame k (.int .i64 (-1))
        have he : ((List.replicate k (-1 : Int) ++ List.replicate (gr - k) 0).map I64).set k (.int .i64 (-1)) = (List.replicate (k + 1) (-1 : Int) ++ List.replicate (gr - (k + 1)) 0).map I64 := by
          rw [show (Value.int .i64 (-1)) = I64 (-1) from rfl, ← List.map_set, List.set_append_right _ _ (by simp), List.length_replicate, Nat.sub_self, show gr - k = (gr - (k + 1)) + 1 by omega, List.replicate_succ, List.set_cons_zero, List.replicate_succ', List.append_assoc]; rfl
        rw [he] at hs2
        have HR2 : Hid (N1 w5 bs gr (.int .i64 ((k + 1 : Nat) : Int)) (wr.setCell ⟨bs, k, none⟩ (.int .i64 (-1)))) := Lib.hid ⟨k + 1, rfl, by omega, hfr.set bs k _ (fun _ => rfl), hs2⟩
        have hwk : IntKind.i64.wrap ((k : Int) + 1) = ((k + 1 : Nat) : Int) := by rw [IntWalk.i64_in _ (by omega)]; omega
        clear hs2 he hs hbk hfr hlen
        go_wp2_with fail
        go_roundw
        case measure => simp [intOf] <;> omega
        case rel => exact HR2.out
      · obtain rfl : k = gr := by omega
        rw [Nat.sub_self, List.replicate_zero, List.append_nil] at hs
        obtain ⟨w6, hw6⟩ : ∃ w6, w6 = wr := ⟨_, rfl⟩
        subst hw6
        have hB6 := HB5.out.frm hfr hbbs
        have hP6 := HP5.out.frm hfr hbPs
        have hM6 := HM5.out.frm hfr (fun e => hsm e.symm)
        have hI6 := HF5.out.1.frm hfr (fun q hq e => by have := hq.2; omega)
        have hf6 := HF5.out.2.then hfr (fun q hq hl => by have := HZ4.out; omega)
        have p0 := hP6.cell 0
        simp only [List.getElem?_cons_zero] at p0
        have lp := hP6.lt
        have hn2 : N2 w6 bs bm k co ins (.int .i64 0) (.int .i64 0) w6 := ⟨0, rfl, by omega, rfl, Frm.refl _ _, hs, by simpa [mostP, I64] using hM6⟩
        have HN2 := Lib.hid hn2
        have H6 := Lib.hid (⟨hB6, hP6, hI6, hf6⟩ : _ ∧ _ ∧ _ ∧ _)
        clear hn2 hs hM6 hB6 hP6 hI6 hf6 hfr HB5 HP5 HM5 HF5
        go_wp2_with fail
        go_loopw [10, 54] (fun nv i wr => N2 w6 bs bm k co ins nv i wr) (fun _ i _ => n - (intOf i).toNat)
        case atStart => exact HN2.out
        case round =>
          clear HN2 p0 lp
          obtain ⟨j, rfl, hj, rfl, hfr, hs, hm⟩ := hrel
          have hjl : j ≤ n := by have := HR.out.2; omega
          by_cases hjn : j < n
          · obtain ⟨i, hi⟩ : ∃ i, ins[j]? = some i := ⟨_, List.getElem?_eq_getElem (by rw [HR.out.2]; exact hjn)⟩
            have f := HFI.out j i hi
            have hFm : ∀ i ∈ ins.take j, ∃ q, FineI ins.length k co q i := fun i hi => by
              obtain ⟨q, hq, e⟩ := List.getElem_of_mem (List.mem_of_mem_take hi)
              exact ⟨q, e ▸ HFI.out q _ (List.getElem?_eq_getElem hq)⟩
            obtain ⟨s1, _, _⟩ := slotP_inv (ins.take j) _ _ (slI0 k) (fun i hi h8 => by obtain ⟨q, hq⟩ := hFm i hi; exact hq.g (.inr (.inr h8)))
            obtain ⟨m1, m2⟩ := mostP_inv (ins.take j) (List.replicate co 0) (fun i hi h10 => by obtain ⟨q, hq⟩ := hFm i hi; have := hq.b h10; omega) (fun v hv => by rw [List.eq_of_mem_replicate hv]; omega)
            rw [List.length_replicate] at m1
            have hsn : (slotP (ins.take (j + 1)) (List.replicate k (-1)) 0) = slotP [i] (slotP (ins.take j) (List.replicate k (-1)) 0).1 (slotP (ins.take j) (List.replicate k (-1)) 0).2 := by
              rw [List.take_add_one, hi, Option.toList_some, slotP_snoc]
            have hmn : mostP (ins.take (j + 1)) (List.replicate co 0) = mostP [i] (mostP (ins.take j) (List.replicate co 0)) := by
              rw [List.take_add_one, hi, Option.toList_some, mostP_snoc]
            generalize (slotP (ins.take j) (List.replicate k (-1)) 0).1 = sl at *
            generalize (slotP (ins.take j) (List.replicate k (-1)) 0).2 = nk at *
            generalize mostP (ins.take j) (List.replicate co 0) = mo at *
            have hnk0 : 0 ≤ nk := by have := s1.cnt; omega
            have hnk1 : nk ≤ k := by have h1 := s1.cnt; have h2 := List.length_filter_le (fun v => decide (0 ≤ v)) sl; rw [s1.len] at h2; omega
            have hFR : ∀ (nv : Int) (wz : World), Frm (fun q => q = bs ∨ q = bm) w6 wz → Blk wz bs ((slotP [i] sl nk).1.map I64) 3 → Blk wz bm ((mostP [i] mo).map I64) 3 → (slotP [i] sl nk).2 = nv → N2 w6 bs bm k co ins (.int .i64 nv) (.int .i64 ((j + 1 : Nat) : Int)) wz :=
              fun nv wz h1 h2 h3 h4 => ⟨j + 1, rfl, by rw [HR.out.2]; omega, by rw [hsn, h4], h1, by rw [hsn]; exact h2, by rw [hmn]; exact h3⟩
            have HFR := Lib.hid hFR
            have HSM := Lib.hid (⟨s1.len, m1⟩ : _ ∧ _)
            clear hFR hsn hmn hFm s1
            obtain ⟨pb, po, rfl, hpb, hpi⟩ := (H6.out.2.2.1.frm hfr (fun q hq e => by have := hq.2; rcases e with e | e <;> omega)).ins j i hi
            obtain ⟨iop, ix, iy, i_n, imn, imx, is0, is1, is2, is3⟩ := i
            have i0 := hpi 0 _ rfl
            have i1 := hpi 1 _ rfl
            have i2 := hpi 2 _ rfl
            have i3 := hpi 3 _ rfl
            have i4 := hpi 4 _ rfl
            have i5 := hpi 5 _ rfl
            have i6 := hpi 6 _ rfl
            have i7 := hpi 7 _ rfl
            have i8 := hpi 8 _ rfl
            have i9 := hpi 9 _ rfl
            rw [Nat.add_zero] at i0
            have hIb := Blk.new wr [.int .i64 iop, .int .i64 ix, .int .i64 iy, .int .i64 i_n, .int .i64 imn, .int .i64 imx, .int .u64 is0, .int .u64 is1, .int .u64 is2, .int .u64 is3] 39
            have hfq : Frm (fun _ => False) wr (wr.alloc (.cells #[.int .i64 iop, .int .i64 ix, .int .i64 iy, .int .i64 i_n, .int .i64 imn, .int .i64 imx, .int .u64 is0, .int .u64 is1, .int .u64 is2, .int .u64 is3] 39)) := (Frm.refl _ _).alloc _
            have hB7 := (H6.out.1.frm hfr (fun e => by rcases e with e | e; exact hbbs e; exact hbbm e)).frm hfq (fun h => h)
            have hs7 := hs.frm hfq (fun h => h)
            have hm7 := hm.frm hfq (fun h => h)
            have hfr7 := hfr.trans (hfq.mono (fun _ h _ => h.elim))
            have hsl := hs.lt
            have hml := hm.lt
            clear hpi hi hs hm hfr hfq m2
            go_upto_region 15 with fail
            clear i0 i1 i2 i3 i4 i5 i6 i7 i8 i9 hpb
            generalize wr.alloc (.cells #[.int .i64 iop, .int .i64 ix, .int .i64 iy, .int .i64 i_n, .int .i64 imn, .int .i64 imx, .int .u64 is0, .int .u64 is1, .int .u64 is2, .int .u64 is3] 39) = w7 at *
            obtain ⟨bI, hbI⟩ : ∃ bI, wr.heap.size = bI := ⟨_, rfl⟩
            simp only [hbI] at hIb hsl hml ⊢
            clear hbI
            have n1 : bI ≠ bs := by omega
            have n2 : bs ≠ bI := by omega
            have n3 : bI ≠ bm := by omega
            have n4 : bm ≠ bI := by omega
            have j0 := hIb.cell 0
            have j3 := hIb.cell 3
            have j4 := hIb.cell 4
            have j5 := hIb.cell 5
            simp only [List.getElem?_cons_zero, List.getElem?_cons_succ] at j0 j3 j4 j5
            have li := hIb.lt
            have b5 := hB7.cell 5
            have b6 := hB7.cell 6
            simp only [List.getElem?_cons_zero, List.getElem?_cons_succ] at b5 b6
            have lb := hB7.lt
            have hwk : IntKind.i64.wrap ((j : Int) + 1) = ((j + 1 : Nat) : Int) := by rw [IntWalk.i64_in _ (by omega)]; omega
            by_cases h8 : iop = 8
            · subst h8
              obtain ⟨q1, q2⟩ := f.g (by simp)
              simp only at q1 q2
              obtain ⟨kn, rfl⟩ := Int.eq_ofNat_of_zero_le q1
              have hkn : kn < k := by omega
              obtain ⟨sv, hsv⟩ : ∃ sv, sl[kn]? = some sv := ⟨_, List.getElem?_eq_getElem (by rw [HSM.out.1]; exact hkn)⟩
              have c0 : w7.cell? ⟨bs, kn, none⟩ = some (.int .i64 sv) := by rw [hs7.cell, List.getElem?_map, hsv]; rfl
              have cf := hs7.frozen kn
              have ls := hs7.lt
              have hgd : sl.getD kn 0 = sv := by rw [List.getD_eq_getElem?_getD, hsv]; rfl
              by_cases hneg : sv < 0
              · have d1 : decide (sv < 0) = true := decide_eq_true hneg
                have hsp : slotP [(⟨8, ix, iy, (kn : Int), imn, imx, is0, is1, is2, is3⟩ : Ins)] sl nk = (sl.set kn nk, nk + 1) := by
                  rw [slotP, if_pos ⟨rfl, by simp only [Int.toNat_natCast]; rw [hgd]; exact hneg⟩]
                  simp [slotP]
                have hwn : IntKind.i64.wrap (nk + 1) = nk + 1 := IntWalk.i64_in _ (by omega)
                have HSP := Lib.hid hsp
                clear hsp hgd hsv
                go_wp2_with fail
                go_quiet (fail)
                have HN : Hid (N2 w6 bs bm k co ins (.int .i64 (nk + 1)) (.int .i64 ((j + 1 : Nat) : Int)) ((w7.drewN nq).setCell ⟨bs, kn, none⟩ (.int .i64 nk)).drew) := Lib.hid (HFR.out _ _ (((hfr7.drewN _).set bs kn _ (fun _ => .inl rfl)).drew) (by
                  rw [HSP.out]
                  have := ((hs7.drewN nq).setSame kn (I64 nk)).drew
                  rwa [← List.map_set] at this) (((hm7.drewN _).setOther bs kn _ (fun e => hsm e.symm)).drew) (by rw [HSP.out]))
                go_wp2_with fail
                go_region
                all_goals
                  go_wp2_with fail
                  go_roundw
                  case measure => simp [intOf] <;> omega
                  case rel => exact HN.out
              · have d1 : decide (sv < 0) = false := decide_eq_false hneg
                have hsp : slotP [(⟨8, ix, iy, (kn : Int), imn, imx, is0, is1, is2, is3⟩ : Ins)] sl nk = (sl, nk) := by
                  rw [slotP, if_neg (by simp only [Int.toNat_natCast]; rw [hgd]; exact fun h => hneg h.2)]
                  simp [slotP]
                have HSP := Lib.hid hsp
                clear hsp hgd hsv
                go_wp2_with fail
                go_quiet (fail)
                have HN : Hid (N2 w6 bs bm k co ins (.int .i64 nk) (.int .i64 ((j + 1 : Nat) : Int)) (w7.drewN nq)) := Lib.hid (HFR.out _ _ (hfr7.drewN _) (by rw [HSP.out]; exact hs7.drewN _) (hm7.drewN _) (by rw [HSP.out]))
                go_wp2_with fail
                go_roundw
                case measure => simp [intOf] <;> omega
                case rel => exact HN.out
            have u8 : (iop == 8) = false := by simpa using h8
            by_cases h10 : iop = 10
            · subst h10
              obtain ⟨q1, q2⟩ := f.c (by simp)
              have qb := f.b rfl
              simp only at q1 q2 qb
              obtain ⟨kn, rfl⟩ := Int.eq_ofNat_of_zero_le q1
              have hkn : kn < co := by omega
              obtain ⟨mv, hmv⟩ : ∃ mv, mo[kn]? = some mv := ⟨_, List.getElem?_eq_getElem (by rw [HSM.out.2]; exact hkn)⟩
              have c0 : w7.cell? ⟨bm, kn, none⟩ = some (.int .i64 mv) := by rw [hm7.cell, List.getElem?_map, hmv]; rfl
              have cf := hm7.frozen kn
              have ls := hm7.lt
              have hmp : mostP [(⟨10, ix, iy, (kn : Int), imn, imx, is0, is1, is2, is3⟩ : Ins)] mo = mo.set kn (max (max mv imx) (imn + 1)) := by
                rw [mostP, if_pos rfl]
                simp only [Int.toNat_natCast, List.getD_eq_getElem?_getD, hmv, Option.getD_some, mostP]
              obtain ⟨mx3, hmx3⟩ : ∃ q, max (max mv imx) (imn + 1) = q := ⟨_, rfl⟩
              rw [hmx3] at hmp
              have hmax : ∀ (w : World) (ty : TypeId), (Builtin.max_ #[3, 3, 3] ty #[.int .i64 mv, .int .i64 imx, .int .i64 (imn + 1)]).run Try.prog w = .ok (.int .i64 mx3) w := fun w ty => by
                have e1 : (if mv < imx then imx else mv) = max mv imx := by rw [Int.max_def]; split <;> split <;> omega
                have e2 : (if max mv imx < imn + 1 then imn + 1 else max mv imx) = mx3 := by rw [← hmx3, Int.max_def (max mv imx)]; split <;> split <;> omega
                simp [Builtin.max_, Builtin.max2, e1, e2]
              have hwm : IntKind.i64.wrap (imn + 1) = imn + 1 := IntWalk.i64_in _ (by omega)
              have HN : Hid (N2 w6 bs bm k co ins (.int .i64 nk) (.int .i64 ((j + 1 : Nat) : Int)) (w7.setCell ⟨bm, kn, none⟩ (.int .i64 mx3)).drew) := Lib.hid (HFR.out _ _ ((hfr7.set bm kn _ (fun _ => .inr rfl)).drew) (by
                  rw [slotP, if_neg (fun h => h8 h.1)]
                  exact (hs7.setOther bm kn _ hsm).drew) (by
                  rw [hmp]
                  have := (hm7.setSame kn (I64 mx3)).drew
                  rwa [← List.map_set] at this) (by rw [slotP, if_neg (fun h => h8 h.1)]; rfl))
              clear hmp hmx3 hmv
              go_wp2_with fail
              go_region
              all_goals
                go_wp2_with fail
                go_roundw
                case measure => simp [intOf] <;> omega
                case rel => exact HN.out
            · have u10 : (iop == 10) = false := by simpa using h10
              have HN : Hid (N2 w6 bs bm k co ins (.int .i64 nk) (.int .i64 ((j + 1 : Nat) : Int)) w7) := Lib.hid (HFR.out _ _ hfr7 (by rw [slotP, if_neg (fun h => h8 h.1)]; exact hs7) (by rw [mostP, if_neg h10]; exact hm7) (by rw [slotP, if_neg (fun h => h8 h.1)]; rfl))
              go_wp2_with fail
              go_roundw
              case measure => simp [intOf] <;> omega
              case rel => exact HN.out
          · have hjn2 : ins.take j = ins := List.take_of_length_le (by rw [HR.out.2]; omega)
            rw [hjn2] at hs hm ⊢
            have hcn : (slotP ins (List.replicate k (-1)) 0).2 = ((nsN ins k : Nat) : Int) := by
              obtain ⟨s1, _, _⟩ := slotP_inv ins _ _ (slI0 k) (fun i hi h8 => by
                obtain ⟨q, hq, e⟩ := List.getElem_of_mem hi
                exact (e ▸ HFI.out q _ (List.getElem?_eq_getElem hq)).g (.inr (.inr h8)))
              exact s1.cnt.symm
            rw [hcn]
            have hW0 := new_MW (fo := fo) (pl := pl) HR.out.1 (live0_shp ins.length (nsN ins k))
            have hnsb : nsN ins k ≤ 1000 := hW0.ns
            change Blk wr bs ((slotN ins k).map I64) 3 at hs
            change Blk wr bm ((mostN ins co).map I64) 3 at hm
            have hsll : (slotN ins k).length = k := by
              have := hW0.sl
              have h1 := hs.cell
              obtain ⟨s1, _, _⟩ := slotP_inv ins _ _ (slI0 k) (fun i hi h8 => by
                obtain ⟨q, hq, e⟩ := List.getElem_of_mem hi
                exact (e ▸ HFI.out q _ (List.getElem?_eq_getElem hq)).g (.inr (.inr h8)))
              exact s1.len
            have hmll : (mostN ins co).length = co := by
              obtain ⟨m1, _⟩ := mostP_inv ins (List.replicate co 0) (fun i hi h10 => by
                obtain ⟨q, hq, e⟩ := List.getElem_of_mem hi
                have := (e ▸ HFI.out q _ (List.getElem?_eq_getElem hq) : FineI _ _ _ _ i).b h10
                omega) (fun v hv => by rw [List.eq_of_mem_replicate hv]; omega)
              rw [List.length_replicate] at m1
              exact m1
            obtain ⟨ns, hns⟩ : ∃ ns, nsN ins k = ns := ⟨_, rfl⟩
            rw [hns] at hnsb ⊢
            have HNS := Lib.hid (⟨hns, hsll, hmll⟩ : _ ∧ _ ∧ _)
            have hB7 := H6.out.1.frm hfr (fun e => by rcases e with e | e; exact hbbs e; exact hbbm e)
            have hP7 := H6.out.2.1.frm hfr (fun e => by rcases e with e | e; exact hbPs e; exact hbPm e)
            have hI7 := H6.out.2.2.1.frm hfr (fun q hq e => by have := hq.2; rcases e with e | e <;> omega)
            have hf7 := H6.out.2.2.2.then hfr (fun q hq hl => by have := HZ4.out; rcases hq with e | e <;> omega)
            have HQ := Lib.hid (⟨hs, hm, hI7, hf7⟩ : _ ∧ _ ∧ _ ∧ _)
            have p0 := hP7.cell 0
            simp only [List.getElem?_cons_zero] at p0
            have lp := hP7.lt
            have b7 := hB7.cell 7
            have bf7 := hB7.frozen 7
            simp only [List.getElem?_cons_zero, List.getElem?_cons_succ] at b7
            have lb := hB7.lt
            have hm74 := mk74 n (by omega)
            clear hjn2 hs hm hcn hW0 hsll hmll hns hI7 hf7 hfr H6
            have hL8 : Blk ((wr.setCell ⟨b, 7, none⟩ (.slice (some ⟨wr.heap.size, 0, none⟩) n n)).alloc (.cells (Array.replicate n (.slice none 0 0)) 79)) wr.heap.size (List.replicate n (.slice none 0 0)) 79 := by
              have h := Blk.newAt (w := wr.setCell ⟨b, 7, none⟩ (.slice (some ⟨wr.heap.size, 0, none⟩) n n)) (n := wr.heap.size) (List.replicate n (.slice none 0 0)) 79 (by simp)
              simpa using h
            have hf78 : Frm (fun q => q = b) wr ((wr.setCell ⟨b, 7, none⟩ (.slice (some ⟨wr.heap.size, 0, none⟩) n n)).alloc (.cells (Array.replicate n (.slice none 0 0)) 79)) := ((Frm.refl (fun q => q = b) wr).set b 7 _ (fun _ => rfl)).alloc _
            have hB8 := (hB7.setSame 7 (.slice (some ⟨wr.heap.size, 0, none⟩) n n)).alloc (.cells (Array.replicate n (.slice none 0 0)) 79)
            simp only [List.set_cons_succ, List.set_cons_zero] at hB8
            have hs8 := HQ.out.1.frm hf78 hbsb
            have hm8 := HQ.out.2.1.frm hf78 hbmb
            have hI8 := HQ.out.2.2.1.frm hf78 (fun q hq e => by have := hq.2; omega)
            have hf8 := HQ.out.2.2.2.then hf78 (fun q hq hl => by have := HZ4.out; omega)
            have hsls := HQ.out.1.lt
            have hslm := HQ.out.2.1.lt
            have hblw := hB7.lt
            go_upto_region 24 with fail
            clear p0 lp b7 bf7 lb hm74 hB7 hP7 HQ hf78
            generalize ((wr.setCell ⟨b, 7, none⟩ (.slice (some ⟨wr.heap.size, 0, none⟩) n n)).alloc (.cells (Array.replicate n (.slice none 0 0)) 79)) = w8 at *
            obtain ⟨bL, hbL⟩ : ∃ bL, wr.heap.size = bL := ⟨_, rfl⟩
            simp only [hbL] at hL8 hB8 hsls hslm hblw ⊢
            clear hbL
            have hbbL : b ≠ bL := by omega
            have hbLb : bL ≠ b := by omega
            have H8 := Lib.hid (⟨hs8, hm8, hI8, hf8⟩ : _ ∧ _ ∧ _ ∧ _)
            have HB8 := Lib.hid hB8
            have hl8 := hL8.lt
            have b7 := hB8.cell 7
            simp only [List.getElem?_cons_zero, List.getElem?_cons_succ] at b7
            have lb := hB8.lt
            have hn3 : N3 w8 bL n ns (.int .i64 0) w8 := ⟨0, [], rfl, by omega, rfl, Frm.refl _ _, by simpa using hL8, fun rb h => (by simp at h), List.nodup_nil⟩
            have HN3 := Lib.hid hn3
            clear hn3 hs8 hm8 hI8 hf8 hL8 hB8
            go_wp2_with fail
            go_loopw [117] (fun i wx => N3 w8 bL n ns i wx) (fun i _ => n - (intOf i).toNat)
            case atStart => exact HN3.out
            case round =>
              clear HN3 b7 lb
              obtain ⟨l, rbs, rfl, hl, hrl, hfr, hLr, hrows, hnd⟩ := hrel
              obtain ⟨wx, hwx⟩ : ∃ wx, wx = wr := ⟨_, rfl⟩
              subst hwx
              by_cases hln : l < n
              · have hBx := HB8.out.frm hfr hbbL
                have b7 := hBx.cell 7
                simp only [List.getElem?_cons_zero, List.getElem?_cons_succ] at b7
                have lb := hBx.lt
                have lL := hLr.lt
                have lf := hLr.frozen l
                have hm79 := mk79 ns (by omega)
                have hcl : wx.cell? ⟨bL, l, none⟩ = some (.slice none 0 0) := by
                  rw [hLr.cell, List.getElem?_append_right (by rw [List.length_map, hrl]; exact Nat.le_refl _), List.length_map, hrl, Nat.sub_self, List.getElem?_replicate, if_pos (by omega)]
                have hRw := Blk.newAt (w := wx.setCell ⟨bL, l, none⟩ (.slice (some ⟨wx.heap.size, 0, none⟩) ns ns)) (n := wx.heap.size) (List.replicate (ns * 2) (.bool false)) 101 (by simp)
                have hL9 := (hLr.setSame l (.slice (some ⟨wx.heap.size, 0, none⟩) ns ns)).alloc (.cells (List.replicate (ns * 2) (.bool false)).toArray 101)
                have hle : (rbs.map (fun rb => Value.slice (some ⟨rb, 0, none⟩) ns ns) ++ List.replicate (n - l) (Value.slice none 0 0)).set l (Value.slice (some ⟨wx.heap.size, 0, none⟩) ns ns) = (rbs ++ [wx.heap.size]).map (fun rb => Value.slice (some ⟨rb, 0, none⟩) ns ns) ++ List.replicate (n - (l + 1)) (Value.slice none 0 0) := by
                  rw [List.set_append_right _ _ (by rw [List.length_map, hrl]; exact Nat.le_refl _), List.length_map, hrl, Nat.sub_self, show n - l = (n - (l + 1)) + 1 by omega, List.replicate_succ, List.set_cons_zero, List.map_append, List.append_assoc]; rfl
                rw [hle] at hL9
                have hzx : wx.heap.size < ((wx.setCell ⟨bL, l, none⟩ (.slice (some ⟨wx.heap.size, 0, none⟩) ns ns)).alloc (.cells (List.replicate (ns * 2) (.bool false)).toArray 101)).heap.size := hRw.lt
                have hN : N3 w8 bL n ns (.int .i64 ((l + 1 : Nat) : Int)) ((wx.setCell ⟨bL, l, none⟩ (.slice (some ⟨wx.heap.size, 0, none⟩) ns ns)).alloc (.cells (List.replicate (ns * 2) (.bool false)).toArray 101)).drew := by
                  refine ⟨l + 1, rbs ++ [wx.heap.size], rfl, by omega, by rw [List.length_append, hrl]; rfl, ((hfr.set bL l _ (fun _ => rfl)).alloc _).drew, hL9.drew, fun rb h => ?_, ?_⟩
                  · rcases List.mem_append.1 h with h | h
                    · obtain ⟨q1, q2, q3⟩ := hrows rb h
                      exact ⟨q1, Nat.lt_trans q2 hzx, ((q3.setOther bL l _ (q3.ne hLr (by decide))).alloc _).drew⟩
                    · rw [List.mem_singleton] at h
                      subst h
                      exact ⟨hfr.size, hzx, hRw.drew⟩
                  · exact List.nodup_append.2 ⟨hnd, by simp, fun a ha b hb e => by rw [List.mem_singleton] at hb; have := (hrows a ha).2.1; omega⟩
                have HN := Lib.hid hN
                have hwk : IntKind.i64.wrap ((l : Int) + 1) = ((l + 1 : Nat) : Int) := by rw [IntWalk.i64_in _ (by omega)]; omega
                have hrp : (Array.replicate (ns * 2) (Value.bool false)) = (List.replicate (ns * 2) (Value.bool false)).toArray := by simp
                have HRP := Lib.hid hrp
                clear hrp hN hL9 hle hRw hzx hrows hnd hLr hBx hrl
                go_wp2_with fail
                go_region
                all_goals
                  go_wp2_with fail
                  try simp only [HRP.out]
                  go_roundw
                  case measure => simp [intOf] <;> omega
                  case rel => exact HN.out
              · obtain rfl : n = l := by omega
                rw [Nat.sub_self, List.replicate_zero, List.append_nil] at hLr
                have hLW : LvW wx (fun _ => True) bL rbs ns (live0 ins.length ns) := ⟨hLr, by rw [hrl, (live0_shp ins.length ns).n, HR.out.2], hnd, fun q r rb h1 h2 => by
                  have hr : r = List.replicate ns ⟨false, false⟩ := List.eq_of_mem_replicate (List.mem_of_getElem? h1)
                  rw [hr, flatL_zero]
                  exact (hrows rb (List.mem_of_getElem? h2)).2.2, fun _ _ => trivial⟩
                have hBx := HB8.out.frm hfr hbbL
                have hsx := H8.out.1.frm hfr (by omega)
                have hmx := H8.out.2.1.frm hfr (by omega)
                have hIx := H8.out.2.2.1.frm hfr (fun q hq e => by have := hq.2; omega)
                have hfx := H8.out.2.2.2.then hfr (fun q hq hl => by have := H8.out.2.2.2.size; have := HZ4.out; omega)
                have hrb8 : ∀ rb, rb ∈ rbs → w8.heap.size ≤ rb := fun rb h => (hrows rb h).1
                have HMK := Lib.hid (markB b _ B (some ⟨bs, 0, none⟩) n dB k k bL n rbs ns ins (slotN ins k) (live0 ins.length ns) (fun q => q < w4.heap.size ∨ q = bs) (fun _ => True) wx hBx rfl rfl (by rw [HR.out.2]; rfl)
                  (hIx.mono (fun q h _ => .inl h.2)) (hsx.rd1 (.inr rfl) (by rw [List.length_map, HNS.out.2.1, Nat.mul_one])) hLW (live0_shp _ _) (live0_post _ _ _ _) (new_mk HR.out.1) hnsb
                  (fun q hq h => by have := hrb8 q hq; rcases h with h | h <;> omega) (fun h => by have := hrb8 _ h; omega))
                have HX := Lib.hid (⟨hBx, hsx, hmx, hIx, hfx, hrb8⟩ : _ ∧ _ ∧ _ ∧ _ ∧ _ ∧ _)
                clear hLW hBx hsx hmx hIx hfx hrb8 hLr hrows hnd hfr hrl
                go_wp2_with fail
                refine HMK.out.mono ?_
                rintro e w10 ⟨rfl, hf10, t, hL10, hS10, hfix⟩
                have HL10 := Lib.hid (⟨hf10, hL10, hS10, hfix⟩ : _ ∧ _ ∧ _ ∧ _)
                clear hf10 hL10 hS10 hfix
                go_wp2_with fail
                rw [← HPO.out]
                obtain ⟨hf10, hL10, hS10, hfix⟩ := HL10.out
                obtain ⟨hBx, hsx, hmx, hIx, hfx, hrb8⟩ := HX.out
                have hwp := HBP.out
                have hz4 := HZ4.out
                have hbr : b ∉ rbs := fun h => by have := hrb8 _ h; omega
                rw [← HNS.out.1] at hL10 hS10 hfix
                refine ⟨b, ⟨B, n, dB, some ⟨bs, 0, none⟩, k, k, some ⟨bm, 0, none⟩, co, co, some ⟨bL, 0, none⟩, n, n, k, co⟩, t, fun q => w.heap.size ≤ q ∧ q ≠ b, rfl, ⟨⟨.map none, .pointer none, ⟨#[]⟩, hBx.frm hf10 hbr⟩, ⟨?_, ?_, ?_, ?_⟩, fun h => h.2 rfl⟩, hfix, hS10, by omega, fun q h => h.1, hfx.then hf10 (fun q hq hl => by have := hrb8 q hq; omega)⟩
                · exact (hIx.mono (G := fun q => w.heap.size ≤ q ∧ q ≠ b ∧ q ∉ rbs) (fun q h _ => ⟨by have := h.1; omega, by have := h.2; omega, fun hr => by have := hrb8 q hr; have := h.2; omega⟩)).frm hf10 (fun q h => h.2.2) |>.mono (fun q h _ => ⟨h.1, h.2.1⟩)
                · exact (hsx.frm hf10 (fun h => by have := hrb8 _ h; omega)).rd1 ⟨by omega, hbsb⟩ (by rw [List.length_map, HNS.out.2.1, Nat.mul_one])
                · exact (hmx.frm hf10 (fun h => by have := hrb8 _ h; omega)).rd1 ⟨by omega, hbmb⟩ (by rw [List.length_map, HNS.out.2.2, Nat.mul_one])
                · have := hL10.lvm (D := fun q => w.heap.size ≤ q ∧ q ≠ b) hS10 ⟨by omega, hbLb⟩ (fun rb h => ⟨by have := hrb8 rb h; omega, fun e => hbr (e ▸ h)⟩)
                  rw [HR.out.2] at this ⊢
                  exact this
end Go.Proofs.Ytoadmpochaeohaa
end
