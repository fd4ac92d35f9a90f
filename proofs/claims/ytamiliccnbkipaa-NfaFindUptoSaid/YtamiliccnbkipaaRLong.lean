/-
  Reference 14: Longest and Find, walked.
-/
import Derived.Test.YtamiliccnbkipaaRRows
import Derived.Test.YtamiliccnbkipaaNJp
set_option linter.unusedVariables false
set_option linter.unusedSimpArgs false
namespace Go.Proofs.Ytamiliccnbkipaa
open Go.RowKit

/-- The greatest end from a place; -1: none. -/
def topV (ins : List Ins) (L : ByteArray) (j : Nat) : Int := match findS ins L.toList j false with | none => -1 | some p => p.2
def topL (ins : List Ins) (L : ByteArray) : List Int := (List.range (L.size + 1)).map (topV ins L)
theorem topL_len (ins : List Ins) (L : ByteArray) : (topL ins L).length = L.size + 1 := by simp [topL]
theorem topL_get (ins : List Ins) (L : ByteArray) (j : Nat) (h : j ≤ L.size) : (topL ins L)[j]? = some (topV ins L j) := by
  simp [topL, List.getElem?_range, show j < L.size + 1 by omega]
theorem topL_rg (ins : List Ins) (L : ByteArray) (j : Nat) (h : j ≤ L.size) : rg (topL ins L) j = topV ins L j := by
  rw [rg, List.getD_eq_getElem?_getD, topL_get _ _ _ h]; rfl
theorem top_row {ins : List Ins} {L : ByteArray} (hfi : Fine ins) {j : Nat} (hj : j ≤ L.size) {r : List Int} (h : GoodR ins L.toList j r) : rg r 0 = topV ins L j := by
  rcases top_single hfi j (by rw [toList_size]; exact hj) r h with ⟨h1, h2⟩ | ⟨q, h1, h2⟩
  · rw [topV, h1, h2]
  · rw [topV, h1, h2]
theorem RW.past {l : List Ins} {line : ByteArray} {n ba lo bo : Nat} {W wr w1 : World} (h : RW l line n ba lo W wr) (f : Frm (fun k => k = bo) wr w1) (hb : wr.heap.size ≤ bo) : RW l line n ba lo W w1 := by
  obtain ⟨cells, h1, hl, hr⟩ := h.ex
  have hz := h.frm.size
  exact ⟨h.frm.then f (fun i e hi => by omega), h.ge, cells, h1.frm f (by have := h1.lt; omega), hl, fun j h1 h2 => by
    obtain ⟨b, r, e1, e2, e3⟩ := hr j h1 h2
    exact ⟨b, r, e1, e2.frm f (by have := e2.lt; omega), e3⟩⟩
/-- Between two rounds. -/
def LT (ins : List Ins) (line : ByteArray) (bo : Nat) (k : Nat) : List Int := (List.range k).map (topV ins line) ++ List.replicate (line.size + 1 - k) 0

set_option maxHeartbeats 4000000 in
set_option maxRecDepth 100000 in
theorem refLongC (A : Option Addr) (n cp : Nat) (gr co : Int) (fo : Bool) (ins : List Ins) (G : Nat → Prop) (line : ByteArray) (W : World) (hrd : Rd W G 10 A n cp (flatI ins)) (hfi : Fine ins) (hok : ∀ i ∈ ins, i.ok) (hl : line.size ≤ 1048576) :
    Calls Try.prog 14 #[.agg #[.slice A n cp, .int .i64 gr, .int .i64 co, .bool fo], .string line] W fun e w' => ∃ bo, e = .returned (.slice (some ⟨bo, 0, none⟩) (line.size + 1) (line.size + 1)) ∧ Blk w' bo ((topL ins line).map I64) 3 ∧ Frm (fun _ => False) W w' := by
  have hil : ins.length = n := by have := hrd.len; rw [flatI_len] at this; omega
  have hn0 : 0 < n := by have := hfi.pos; omega
  have hP := Blk.new W [.slice A n cp, .int .i64 gr, .int .i64 co, .bool fo] 24
  have hf0 : Frm (fun _ => False) W (W.alloc (.cells #[.slice A n cp, .int .i64 gr, .int .i64 co, .bool fo] 24)) := (Frm.refl _ W).alloc _
  have HFI := Lib.hid hfi
  have HIL := Lib.hid hil
  go_enter Try.func14, Try.ntmps14
  go_upto_region 1 with fail
  generalize W.alloc (.cells #[.slice A n cp, .int .i64 gr, .int .i64 co, .bool fo] 24) = w1 at *
  generalize hbp : W.heap.size = bp at *
  have HRW := Lib.hid (rowsC A n cp gr co fo ins G line w1 (hrd.frm hf0 (fun _ _ h => h)) hfi hok hl)
  obtain ⟨p0, p1, p2, p3, g0, g1, g2, g3, lp⟩ := blk4 hP
  clear hfi hok hil
  go_wp2_with fail
  refine HRW.out.mono ?_
  rintro e w2 ⟨ba, rfl, hrw⟩
  have hw1 : IntKind.i64.wrap ((line.size : Int) + 1) = (line.size : Int) + 1 := IntWalk.i64_in _ (by omega)
  have hf2 : Frm (fun _ => False) W w2 := hf0.trans hrw.frm
  clear p0 p1 p2 p3 g0 g1 g2 g3 lp hP HRW
  go_wp2_with (with_reducible refine stop_at 14 rfl ?_)
  unfold Stop
  refine op_make rfl _ _ _ rfl 3 (.int .i64 0) 8 Try.underlying32 infoInt rfl ((line.size : Int) + 1) rfl rfl (line.size + 1) (by omega) (by omega) (by omega) ?_
  intro bo w3 hn3 hB3
  have hge3 := hn3.eq
  have hf3 : Frm (fun _ => False) W w3 := hf2.trans hn3.frm
  have HRW3 := Lib.hid (hrw.world hn3.frm)
  have HW3 : Hid (W.heap.size ≤ bo ∧ bo < w3.heap.size) := Lib.hid ⟨by have := hf2.size; omega, hn3.lt⟩
  have hbabo : Hid (ba < bo ∧ ∀ b, b < w2.heap.size → b < bo) := Lib.hid ⟨by obtain ⟨c, h, _⟩ := hrw.ex; have := h.lt; omega, fun b h => by omega⟩
  have HRWB := Lib.hid hrw
  have HN3 := Lib.hid hn3.frm
  have HGE := Lib.hid hge3
  have HF3 := Lib.hid hf3
  clear hn3 hge3 hf2 hrw hf0 hf3
  go_wp2_with fail
  go_loopw [7] (fun i wx => ∃ k : Nat, i = .int .i64 k ∧ k ≤ line.size + 1 ∧ Frm (fun k => k = bo) w3 wx ∧ Blk wx bo ((LT ins line bo k).map I64) 3) (fun i _ => line.size + 1 - (intOf i).toNat)
  case atStart => exact ⟨0, rfl, by omega, Frm.refl _ _, by simpa [I64, LT] using hB3⟩
  case round =>
    clear hB3
    obtain ⟨k, rfl, hk, hf, hb⟩ := hrel
    by_cases hkn : k < line.size + 1
    · have hlen : (LT ins line bo k).length = line.size + 1 := by simp [LT]; omega
      have hrw := HRWB.out.past ((HN3.out.mono (fun _ h _ => h.elim)).trans hf) (by have := HGE.out; omega)
      obtain ⟨cells, hA, hcl, hrows⟩ := hrw.ex
      obtain ⟨b, r, e1, e2, e3⟩ := hrows k (by omega) (by omega)
      have ht := top_row HFI.out (by omega) e3
      have d1 := hA.cell k
      rw [e1] at d1
      have hrl : r.length = n := by rw [e3.len, HIL.out]
      have d2 := row_cell e2 (k := 0) (by omega)
      rw [ht] at d2
      have lba := hA.lt
      have lb := e2.lt
      have hc := row_cell hb (k := k) (by rw [hlen]; exact hkn)
      have hfz := hb.frozen k
      have hlb := hb.lt
      have hb2 := row_set hb (k := k) (topV ins line k)
      have he : (LT ins line bo k).set k (topV ins line k) = LT ins line bo (k + 1) := by
        rw [LT, List.set_append_right _ _ (by simp), List.length_map, List.length_range, Nat.sub_self, show line.size + 1 - k = (line.size + 1 - (k + 1)) + 1 by omega, List.replicate_succ, List.set_cons_zero, LT, List.range_succ, List.map_append, List.append_assoc]; rfl
      rw [he] at hb2
      have HB2 := Lib.hid hb2
      clear hb2 he hb hA hrows e2 e3 ht e1 hcl hrw
      go_wp2_with fail
      go_roundw
      case measure => simp [intOf] <;> omega
      case rel => exact ⟨k + 1, by go_num, by omega, hf.set bo k _ (fun _ => rfl), HB2.out⟩
    · obtain rfl : k = line.size + 1 := by omega
      rw [LT, Nat.sub_self, List.replicate_zero, List.append_nil] at hb
      have HB := Lib.hid hb
      clear hb
      go_wp2_with fail
      go_ret
      exact ⟨bo, rfl, HB.out, HF3.out.then hf (fun i e hi => by have := HW3.out; omega)⟩

/-- What Find tells: the first place with an end. -/
theorem find_top {ins : List Ins} {L : ByteArray} (hfi : Fine ins) {a i : Nat} (ha : a ≤ i) (hn : ∀ j, a ≤ j → j < i → topV ins L j < 0) : (i ≤ L.size → 0 ≤ topV ins L i → findS ins L.toList a true = some ((i : Int), topV ins L i)) ∧ (a ≤ L.size → i = L.size + 1 → findS ins L.toList a true = none) := by
  have neg : ∀ j, j ≤ L.size → topV ins L j < 0 → findS ins L.toList j false = none := fun j hj h => by
    cases hr : findS ins L.toList j false with
    | none => rfl
    | some ft =>
      obtain ⟨f, t⟩ := ft
      obtain ⟨s, q, h1, h2, _⟩ := (find_spec (line := L.toList) hfi j (by rw [toList_size]; exact hj) false).snd f t hr
      rw [topV, hr] at h
      simp only at h
      omega
  constructor
  · intro hi h0
    obtain ⟨F1, F2⟩ := follows_law (line := L.toList) hfi a (by rw [toList_size]; omega)
    cases hri : findS ins L.toList i false with
    | none => rw [topV, hri] at h0; simp at h0
    | some ft =>
      obtain ⟨f, t⟩ := ft
      cases hr : findS ins L.toList a true with
      | none => rw [F2 hr i ha (by rw [toList_size]; exact hi)] at hri; cases hri
      | some ft2 =>
        obtain ⟨f2, t2⟩ := ft2
        obtain ⟨i0, rfl, g2, g3, g4, g5⟩ := F1 f2 t2 hr
        rw [toList_size] at g3
        rcases Nat.lt_trichotomy i0 i with hlt | rfl | hgt
        · have := hn i0 g2 hlt
          obtain ⟨s, q, h1, h2, _⟩ := (find_spec (line := L.toList) hfi i0 (by rw [toList_size]; exact g3) false).snd _ _ g4
          rw [topV, g4] at this
          simp only at this
          omega
        · rw [topV, g4]
        · rw [g5 i ha hgt] at hri; cases hri
  · rintro ha2 rfl
    obtain ⟨F1, F2⟩ := follows_law (line := L.toList) hfi a (by rw [toList_size]; omega)
    cases hr : findS ins L.toList a true with
    | none => rfl
    | some ft2 =>
      obtain ⟨f2, t2⟩ := ft2
      obtain ⟨i0, rfl, g2, g3, g4, g5⟩ := F1 f2 t2 hr
      rw [toList_size] at g3
      rw [neg i0 g3 (hn i0 g2 (by omega))] at g4
      cases g4

set_option maxHeartbeats 4000000 in
set_option maxRecDepth 100000 in
theorem refFindC (A : Option Addr) (n cp : Nat) (gr co : Int) (fo : Bool) (ins : List Ins) (G : Nat → Prop) (line : ByteArray) (a : Nat) (W : World) (hrd : Rd W G 10 A n cp (flatI ins)) (hfi : Fine ins) (hok : ∀ i ∈ ins, i.ok) (hl : line.size ≤ 1048576) (ha : a ≤ line.size) :
    Calls Try.prog 17 #[.agg #[.slice A n cp, .int .i64 gr, .int .i64 co, .bool fo], .string line, .int .i64 a] W fun e w' => e = .returned (.tuple #[.agg #[.int .i64 (bestF (findS ins line.toList a true)), .int .i64 (bestT (findS ins line.toList a true))], .bool (findS ins line.toList a true).isSome]) ∧ Frm (fun _ => False) W w' := by
  have hP := (Blk.new W [.slice A n cp, .int .i64 gr, .int .i64 co, .bool fo] 24).alloc (.cells #[.int .i64 0, .int .i64 0] 37)
  have hS := Blk.new (W.alloc (.cells #[.slice A n cp, .int .i64 gr, .int .i64 co, .bool fo] 24)) [.int .i64 0, .int .i64 0] 37
  rw [World.size_alloc] at hS
  have hf0 : Frm (fun _ => False) W ((W.alloc (.cells #[.slice A n cp, .int .i64 gr, .int .i64 co, .bool fo] 24)).alloc (.cells #[.int .i64 0, .int .i64 0] 37)) := ((Frm.refl _ W).alloc _).alloc _
  have HFI := Lib.hid hfi
  obtain ⟨fr, hfr⟩ : ∃ r, findS ins line.toList a true = r := ⟨_, rfl⟩
  rw [hfr]
  have HFR := Lib.hid hfr
  clear hfr
  go_enter Try.func17, Try.ntmps17
  go_upto_region 1 with fail
  generalize (W.alloc (.cells #[.slice A n cp, .int .i64 gr, .int .i64 co, .bool fo] 24)).alloc (.cells #[.int .i64 0, .int .i64 0] 37) = w1 at *
  generalize hbs : W.heap.size + 1 = bs at *
  have hbsW : Hid (W.heap.size ≤ bs) := Lib.hid (by omega)
  generalize hbp : W.heap.size = bp at *
  clear hbs
  have HRL := Lib.hid (refLongC A n cp gr co fo ins G line w1 (hrd.frm hf0 (fun _ _ h => h)) hfi hok hl)
  obtain ⟨p0, p1, p2, p3, g0, g1, g2, g3, lp⟩ := blk4 hP
  clear hfi hok
  go_wp2_with fail
  refine HRL.out.mono ?_
  rintro e w2 ⟨bo, rfl, hT, hf2⟩
  have hS2 := hS.frm hf2 (fun h => h)
  have hfin := hf0.trans hf2
  obtain ⟨s0, s1, z0, z1, ls⟩ := blk2 hS2
  have HT := Lib.hid hT
  have hlo := hT.lt
  clear p0 p1 p2 p3 g0 g1 g2 g3 lp hP HRL hf2 hf0 hT hS
  go_wp2_with fail
  go_loop [9] (fun i => ∃ k : Nat, i = .int .i64 k ∧ a ≤ k ∧ k ≤ line.size + 1 ∧ Hid (∀ j, a ≤ j → j < k → topV ins line j < 0)) (fun i => line.size + 1 - (intOf i).toNat)
  case atStart => exact ⟨a, rfl, by omega, by omega, Lib.hid (fun j h1 h2 => by omega)⟩
  case round =>
    obtain ⟨k, rfl, hak, hk, hno⟩ := hrel
    by_cases hkn : k < line.size + 1
    · have d1 := row_cell HT.out (k := k) (by rw [topL_len]; exact hkn)
      rw [topL_rg _ _ _ (by omega)] at d1
      obtain ⟨F1, _⟩ := find_top HFI.out hak hno.out
      have HF1 := Lib.hid F1
      clear F1
      obtain ⟨v, hv⟩ : ∃ v, topV ins line k = v := ⟨_, rfl⟩
      rw [hv] at d1 HF1
      have HV := Lib.hid hv
      clear hv
      by_cases hv0 : 0 ≤ v
      · have hfv := HF1.out (by omega) hv0
        rw [HFR.out] at hfv
        subst hfv
        clear HF1
        go_wp2_with fail
        refine bodyPost_ret (results_two rfl (RV.cell rfl ((hS2.setSame 0 (.int .i64 k)).setSame 1 (.int .i64 v)) Try.underlying37 rfl (by kernel_rfl)) (RV.tmp rfl)) rfl ?_
        exact ⟨rfl, (hfin.set bs 0 _ (fun h => by have := hbsW.out; omega)).set bs 1 _ (fun h => by have := hbsW.out; omega)⟩
      · have hvn : ¬ (0 ≤ v) := hv0
        go_wp2_with fail
        go_round
        case measure => simp [intOf] <;> omega
        case rel => exact ⟨k + 1, by go_num, by omega, by omega, Lib.hid (fun j h1 h2 => by
          by_cases hj : j < k
          · exact hno.out j h1 hj
          · obtain rfl : j = k := by omega
            rw [HV.out]; omega)⟩
    · obtain rfl : k = line.size + 1 := by omega
      have hfv := (find_top HFI.out hak hno.out).2 ha rfl
      rw [HFR.out] at hfv
      subst hfv
      go_wp2_with fail
      refine bodyPost_ret (results_two rfl (RV.cell rfl ((hS2.setSame 0 (.int .i64 0)).setSame 1 (.int .i64 0)) Try.underlying37 rfl (by kernel_rfl)) (RV.tmp rfl)) rfl ?_
      exact ⟨rfl, (hfin.set bs 0 _ (fun h => by have := hbsW.out; omega)).set bs 1 _ (fun h => by have := hbsW.out; omega)⟩
end Go.Proofs.Ytamiliccnbkipaa
