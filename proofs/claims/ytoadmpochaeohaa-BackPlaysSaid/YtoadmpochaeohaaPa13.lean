/-
  Layer 20: mark, walked.
-/
import Derived.Test.YtoadmpochaeohaaPa12
import Derived.Test.YtoadmpochaeohaaPa6
import Derived.Laws.StructEq
section
set_option linter.unusedVariables false
set_option linter.unusedSimpArgs false
set_option maxRecDepth 100000
namespace Go.Proofs.Ytoadmpochaeohaa
open Go.RowKit

/-- What matters at each instruction, in memory that may be written. -/
structure LvW (w : World) (G : Nat → Prop) (bL : Nat) (rbs : List Nat) (ns : Nat) (live : List (List Lv)) : Prop where
  out : Blk w bL (rbs.map fun rb => .slice (some ⟨rb, 0, none⟩) ns ns) 79
  len : rbs.length = live.length
  nd : rbs.Nodup
  row : ∀ (k : Nat) (r : List Lv) (rb : Nat), live[k]? = some r → rbs[k]? = some rb → Blk w rb (flatL r) 101
  in_ : ∀ rb, rb ∈ rbs → G rb
theorem LvW.frm {S : Nat → Prop} {w w' : World} {G : Nat → Prop} {bL : Nat} {rbs : List Nat} {ns : Nat} {live : List (List Lv)} (h : LvW w G bL rbs ns live) (f : Frm S w w') (hb : ¬ S bL) (hr : ∀ rb, rb ∈ rbs → ¬ S rb) : LvW w' G bL rbs ns live :=
  ⟨h.out.frm f hb, h.len, h.nd, fun k r rb h1 h2 => (h.row k r rb h1 h2).frm f (hr rb (List.mem_of_getElem? h2)), h.in_⟩
theorem flatL_set : ∀ (l : List Lv) (k : Nat) (t : Lv), ((flatL l).set (k * 2) (.bool t.began)).set (k * 2 + 1) (.bool t.part) = flatL (l.set k t)
  | [], k, t => by simp [flatL]
  | x :: l, 0, t => rfl
  | x :: l, k + 1, t => by
    have ih := flatL_set l k t
    show ((Value.bool x.began :: .bool x.part :: flatL l).set ((k + 1) * 2) _).set ((k + 1) * 2 + 1) _ = .bool x.began :: .bool x.part :: flatL (l.set k t)
    rw [show (k + 1) * 2 + 1 = ((k * 2 + 1) + 1) + 1 by omega, show (k + 1) * 2 = (k * 2 + 1) + 1 by omega, List.set_cons_succ, List.set_cons_succ, List.set_cons_succ, List.set_cons_succ, ih]
/-- Where a bit lies. -/
theorem LvW.at_ {w : World} {G : Nat → Prop} {bL : Nat} {rbs : List Nat} {n ns : Nat} {live : List (List Lv)} (h : LvW w G bL rbs ns live) (hs : Shp n ns live) {k g : Nat} (hk : k < n) (hg : g < ns) :
    ∃ rb, rbs[k]? = some rb ∧ w.cell? ⟨bL, k, none⟩ = some (.slice (some ⟨rb, 0, none⟩) ns ns) ∧ rb < w.heap.size ∧ w.cell? ⟨rb, g * 2, none⟩ = some (.bool (lv live k g).began) ∧ w.cell? ⟨rb, g * 2 + 1, none⟩ = some (.bool (lv live k g).part) ∧ w.frozen? ⟨rb, g * 2, none⟩ = false ∧ w.frozen? ⟨rb, g * 2 + 1, none⟩ = false ∧ rb ≠ bL := by
  obtain ⟨rb, hrb⟩ : ∃ rb, rbs[k]? = some rb := ⟨_, List.getElem?_eq_getElem (by rw [h.len, hs.n]; exact hk)⟩
  obtain ⟨r, hr⟩ : ∃ r, live[k]? = some r := ⟨_, List.getElem?_eq_getElem (by rw [hs.n]; exact hk)⟩
  have hB := h.row k r rb hr hrb
  obtain ⟨t, ht⟩ : ∃ t, r[g]? = some t := ⟨_, List.getElem?_eq_getElem (by rw [hs.r k r hr]; exact hg)⟩
  have hlv : lv live k g = t := by unfold lv; simp only [List.getD_eq_getElem?_getD, hr, Option.getD_some, ht]
  obtain ⟨e1, e2⟩ := flatL_get r g t ht
  refine ⟨rb, hrb, by rw [h.out.cell, List.getElem?_map, hrb]; rfl, hB.lt, by rw [hB.cell, e1, hlv], by rw [hB.cell, e2, hlv], hB.frozen _, hB.frozen _, ?_⟩
  exact hB.ne h.out (by decide)
theorem LvW.rowAt {w : World} {G : Nat → Prop} {bL : Nat} {rbs : List Nat} {n ns : Nat} {live : List (List Lv)} (h : LvW w G bL rbs ns live) (hs : Shp n ns live) {k : Nat} (hk : k < n) :
    ∃ rb, rbs[k]? = some rb ∧ w.cell? ⟨bL, k, none⟩ = some (.slice (some ⟨rb, 0, none⟩) ns ns) ∧ rb < w.heap.size ∧ rb ≠ bL := by
  obtain ⟨rb, hrb⟩ : ∃ rb, rbs[k]? = some rb := ⟨_, List.getElem?_eq_getElem (by rw [h.len, hs.n]; exact hk)⟩
  obtain ⟨r, hr⟩ : ∃ r, live[k]? = some r := ⟨_, List.getElem?_eq_getElem (by rw [hs.n]; exact hk)⟩
  have hB := h.row k r rb hr hrb
  exact ⟨rb, hrb, by rw [h.out.cell, List.getElem?_map, hrb]; rfl, hB.lt, hB.ne h.out (by decide)⟩
theorem LvW.set {w : World} {G : Nat → Prop} {bL : Nat} {rbs : List Nat} {n ns : Nat} {live : List (List Lv)} (h : LvW w G bL rbs ns live) (hs : Shp n ns live) {k g rb : Nat} (hk : k < n) (hg : g < ns) (hrb : rbs[k]? = some rb) (hne : rb ≠ bL) (l : Lv) :
    LvW ((w.setCell ⟨rb, g * 2, none⟩ (.bool l.began)).setCell ⟨rb, g * 2 + 1, none⟩ (.bool l.part)) G bL rbs ns (setLv live k g l) := by
  refine ⟨(h.out.setOther rb _ _ (fun e => hne e.symm)).setOther rb _ _ (fun e => hne e.symm), by rw [h.len]; simp [setLv], h.nd, fun k' r' rb' h1 h2 => ?_, h.in_⟩
  unfold setLv at h1
  rw [List.getElem?_set] at h1
  by_cases hkk : k = k'
  · subst hkk
    rw [hrb] at h2; injection h2 with h2; subst h2
    rw [if_pos rfl, if_pos (by rw [hs.n]; exact hk)] at h1
    injection h1 with h1
    subst h1
    obtain ⟨r, hr⟩ : ∃ r, live[k]? = some r := ⟨_, List.getElem?_eq_getElem (by rw [hs.n]; exact hk)⟩
    rw [List.getD_eq_getElem?_getD, hr, Option.getD_some, ← flatL_set]
    exact ((h.row k r rb hr hrb).setSame _ _).setSame _ _
  · rw [if_neg hkk] at h1
    have hnn : rb' ≠ rb := by
      intro e
      subst e
      have h3 := (List.getElem?_eq_some_iff.1 hrb)
      have h4 := (List.getElem?_eq_some_iff.1 h2)
      obtain ⟨h3, h5⟩ := h3
      obtain ⟨h4, h6⟩ := h4
      have hp := List.pairwise_iff_getElem.1 h.nd
      rcases Nat.lt_or_gt_of_ne hkk with hlt | hlt
      · exact hp k k' h3 h4 hlt (h5.trans h6.symm)
      · exact hp k' k h4 h3 hlt (h6.trans h5.symm)
    exact ((h.row k' r' rb' h1 h2).setOther rb _ _ hnn).setOther rb _ _ hnn
def eqLv (a b : Lv) : Bool := decide (a = b)
theorem run_eqLv (w : World) (a b c e : Bool) : (Op.equalIn 10000 101 (.agg #[.bool a, .bool b]) (.agg #[.bool c, .bool e])).run Try.prog w = .ok (eqLv ⟨a, b⟩ ⟨c, e⟩) w := by
  cases a <;> cases b <;> cases c <;> cases e <;> kernel_rfl
theorem eqGuard101 : Try.prog.eqGuardType Try.prog.depth 101 = false := by kernel_rfl
attribute [local go_sem high] run_eqLv
attribute [local go_sem] eqGuard101
/-- Between two targets. -/
def M4 (w0 : World) (bT : Nat) (live : List (List Lv)) (g : Nat) (ts : List Nat) (i : Value) (wr : World) : Prop :=
  ∃ (j : Nat) (l : Lv), i = .int .i64 j ∧ j ≤ ts.length ∧ l = (ts.take j).foldl (fun l t => (⟨l.began || (lv live t g).began, l.part || (lv live t g).part⟩ : Lv)) ⟨false, false⟩ ∧ Frm (fun k => k = bT) w0 wr ∧ Blk wr bT [.bool l.began, .bool l.part] 101
/-- Between two groups. -/
def M3 (w0 : World) (G : Nat → Prop) (bL : Nat) (rbs : List Nat) (ins : List Ins) (slot : List Int) (ns k : Nat) (live2 live : List (List Lv)) (fv i : Value) (wr : World) : Prop :=
  ∃ (g : Nat) (fl : Bool) (live3 : List (List Lv)), i = .int .i64 g ∧ fv = .bool fl ∧ g ≤ ns ∧ live3 = rowM ins slot k g live2 ∧ LvW wr G bL rbs ns live3 ∧ Shp ins.length ns live3 ∧ Post ins slot ns live3 ∧ Frm (fun q => q ∈ rbs) w0 wr ∧ (fl = false → live3 = live) ∧ (fl = true → trues live < trues live3) ∧ trues live ≤ trues live3
/-- Between two instructions. -/
def M2 (w0 : World) (G : Nat → Prop) (bL : Nat) (rbs : List Nat) (ins : List Ins) (slot : List Int) (ns : Nat) (live : List (List Lv)) (fv i : Value) (wr : World) : Prop :=
  ∃ (lo : Nat) (fl : Bool) (live2 : List (List Lv)), i = .int .i64 ((lo : Int) - 1) ∧ fv = .bool fl ∧ lo ≤ ins.length ∧ sweepM ins slot ns lo live2 = sweepM ins slot ns ins.length live ∧ LvW wr G bL rbs ns live2 ∧ Shp ins.length ns live2 ∧ Post ins slot ns live2 ∧ Frm (fun q => q ∈ rbs) w0 wr ∧ (fl = false → live2 = live) ∧ (fl = true → trues live < trues live2) ∧ trues live ≤ trues live2
/-- Between two sweeps. -/
def M1 (w0 : World) (G : Nat → Prop) (bL : Nat) (rbs : List Nat) (ins : List Ins) (slot : List Int) (ns : Nat) (liveA : List (List Lv)) (g : Nat) (fv : Value) (wr : World) : Prop :=
  ∃ (t : Nat) (fl : Bool), fv = .bool fl ∧ LvW wr G bL rbs ns (iterM (sweepM ins slot ns ins.length) t liveA) ∧ Shp ins.length ns (iterM (sweepM ins slot ns ins.length) t liveA) ∧ Post ins slot ns (iterM (sweepM ins slot ns ins.length) t liveA) ∧ Frm (fun q => q ∈ rbs) w0 wr ∧
    (fl = true → ins.length * (ns * 2) + 1 ≤ g + trues (iterM (sweepM ins slot ns ins.length) t liveA)) ∧ (fl = false → sweepM ins slot ns ins.length (iterM (sweepM ins slot ns ins.length) t liveA) = iterM (sweepM ins slot ns ins.length) t liveA)
structure MkOk (ins : List Ins) (slot : List Int) : Prop where
  to_ : ∀ (k : Nat) (i : Ins), ins[k]? = some i → leadsI i k = (leadsS i k).map (fun (t : Nat) => (t : Int)) ∧ ∀ t ∈ leadsS i k, t < ins.length
  gr : ∀ (k : Nat) (i : Ins), ins[k]? = some i → i.op = 6 ∨ i.op = 7 ∨ i.op = 8 → 0 ≤ i.n ∧ i.n.toNat < slot.length
  ni : ins.length ≤ 40000
  pos : 0 < ins.length

set_option maxHeartbeats 16000000 in
theorem markB (b : Nat) (cs : List Value) (PA SA : Option Addr) (pn pc sn sc bL lc : Nat) (rbs : List Nat) (ns : Nat) (ins : List Ins) (slot : List Int) (live : List (List Lv)) (D G : Nat → Prop) (w : World)
    (hB : Blk w b cs 78) (h0 : cs[0]? = some (.slice PA pn pc)) (h5 : cs[5]? = some (.slice SA sn sc)) (h7 : cs[7]? = some (.slice (some ⟨bL, 0, none⟩) ins.length lc))
    (hI : Rd w D 10 PA pn pc (flatI ins)) (hS : Rd w D 1 SA sn sc (slot.map I64)) (hL : LvW w G bL rbs ns live) (hsh : Shp ins.length ns live) (hpo : Post ins slot ns live) (hok : MkOk ins slot) (hns : ns ≤ 1000)
    (hD : ∀ q, q ∈ rbs → ¬ D q) (hb : b ∉ rbs) :
    Calls Try.prog 33 #[.pointer (some ⟨b, 0, none⟩)] w fun e w' => e = .returned (.tuple #[]) ∧ Frm (fun q => q ∈ rbs) w w' ∧ ∃ t, LvW w' G bL rbs ns (iterM (sweepM ins slot ns ins.length) t live) ∧ Shp ins.length ns (iterM (sweepM ins slot ns ins.length) t live) ∧
      sweepM ins slot ns ins.length (iterM (sweepM ins slot ns ins.length) t live) = iterM (sweepM ins slot ns ins.length) t live := by
  have hpn : ins.length = pn := by have := hI.len; rw [flatI_len] at this; omega
  obtain ⟨n, hn⟩ : ∃ n, ins.length = n := ⟨_, rfl⟩
  have hbL : bL ∉ rbs := fun h => by
    obtain ⟨k, hk, e⟩ := List.getElem_of_mem h
    obtain ⟨r, hr⟩ : ∃ r, live[k]? = some r := ⟨_, List.getElem?_eq_getElem (by rw [← hL.len]; exact hk)⟩
    exact (hL.row k r rbs[k] hr (List.getElem?_eq_getElem hk)).ne hL.out (by decide) e
  have HOK := Lib.hid hok
  have hn4 : n ≤ 40000 := by have := hok.ni; omega
  have hn0 : 0 < n := by have := hok.pos; omega
  have hm1 : M1 w G bL rbs ins slot ns live (ins.length * (ns * 2) + 1) (.bool true) w := ⟨0, true, rfl, hL, hsh, hpo, Frm.refl _ _, fun _ => Nat.le_add_right _ _, fun h => (by cases h)⟩
  have HM1 := Lib.hid hm1
  have HDB := Lib.hid (⟨hD, hb, hbL⟩ : _ ∧ _ ∧ _)
  have HB := Lib.hid hB
  have HIS := Lib.hid (⟨hI, hS⟩ : _ ∧ _)
  rw [hn] at h7
  rw [← hpn, hn] at h0
  have HN := Lib.hid (⟨hn, hpn⟩ : _ ∧ _)
  clear hm1 hL hsh hpo hok hD hb hbL hB hI hS hn hpn
  go_enter Try.func33, Try.ntmps33
  go_wp2_with fail
  go_loopg [2] (ins.length * (ns * 2) + 1) (fun g fv wr => M1 w G bL rbs ins slot ns live g fv wr)
  case atStart => exact HM1.out
  case round =>
    clear HM1
    obtain ⟨t, fl, rfl, hL, hsh, hpo, hfr, hg1, hg2⟩ := hrel
    obtain ⟨LV, hLV⟩ : ∃ LV, iterM (sweepM ins slot ns ins.length) t live = LV := ⟨_, rfl⟩
    rw [hLV] at hL hsh hpo hg1 hg2
    have HLV := Lib.hid hLV
    clear hLV
    cases fl with
    | false =>
      have HF := Lib.hid (⟨hL, hsh, hg2 rfl, hfr⟩ : _ ∧ _ ∧ _ ∧ _)
      clear hL hsh hpo hfr hg1 hg2
      go_wp2_with fail
      go_end0
      exact ⟨rfl, HF.out.2.2.2, t, by rw [HLV.out]; exact HF.out.1, by rw [HLV.out]; exact HF.out.2.1, by rw [HLV.out]; exact HF.out.2.2.1⟩
    | true =>
      have hB1 := HB.out.frm hfr HDB.out.2.1
      have b0 := hB1.cell 0
      rw [h0] at b0
      have lb := hB1.lt
      have hwn : IntKind.i64.wrap ((n : Int) - 1) = (n : Int) - 1 := IntWalk.i64_in _ (by omega)
      have hm2 : M2 w G bL rbs ins slot ns LV (.bool false) (.int .i64 ((n : Int) - 1)) wr := ⟨n, false, LV, rfl, rfl, by rw [HN.out.1]; omega, by rw [HN.out.1], hL, hsh, hpo, hfr, fun _ => rfl, fun h => (by cases h), Nat.le_refl _⟩
      have HM2 := Lib.hid hm2
      have HG1 := Lib.hid (⟨hg1 rfl, trues_le hsh⟩ : _ ∧ _)
      clear hm2 hL hsh hpo hfr hg1 hg2 hB1
      go_wp2_with fail
      go_loopw [2, 3] (fun fv kv wr => M2 w G bL rbs ins slot ns LV fv kv wr) (fun _ kv _ => (intOf kv + 1).toNat)
      case atStart => exact HM2.out
      case round =>
        clear HM2 b0 lb
        obtain ⟨lo, fl, live2, rfl, rfl, hlo, hsw, hL, hsh, hpo, hfr, hg1, hg2, hg3⟩ := hrel
        cases lo with
        | zero =>
          rw [show (((0 : Nat) : Int)) - 1 = -1 by omega]
          rw [sweepM] at hsw
          have hg' : ∃ g', g' < gk ∧ M1 w G bL rbs ins slot ns live g' (.bool fl) wr := by
            have hit : iterM (sweepM ins slot ns ins.length) (t + 1) live = live2 := by rw [iterM, HLV.out]; exact hsw.symm
            obtain ⟨q1, q2⟩ := HG1.out
            have q3 := trues_le hsh
            cases fl with
            | true =>
              have q4 := hg2 rfl
              exact ⟨ins.length * (ns * 2) + 1 - trues live2, by omega, t + 1, true, rfl, by rw [hit]; exact hL, by rw [hit]; exact hsh, by rw [hit]; exact hpo, hfr, fun _ => by rw [hit]; omega, fun h => (by cases h)⟩
            | false =>
              have q4 := hg1 rfl
              exact ⟨0, by omega, t + 1, false, rfl, by rw [hit]; exact hL, by rw [hit]; exact hsh, by rw [hit]; exact hpo, hfr, fun h => (by cases h), fun _ => by rw [hit, q4]; rw [← hsw, q4]⟩
          obtain ⟨g', hlt, hm⟩ := hg'
          have HM := Lib.hid hm
          clear hm hsw hL hsh hpo hfr hg1 hg2 hg3
          go_wp2_with fail
          go_roundg g'
          case measure => exact hlt
          case rel => exact HM.out
        | succ k =>
          rw [show (((k + 1 : Nat) : Int)) - 1 = (k : Int) by omega]
          have hkn : k < n := by have := HN.out.1; omega
          obtain ⟨i, hi⟩ : ∃ i, ins[k]? = some i := ⟨_, List.getElem?_eq_getElem (by rw [HN.out.1]; exact hkn)⟩
          obtain ⟨pb, po, hPA, hpb, hpi⟩ := (HIS.out.1.frm hfr (fun q hq h => HDB.out.1 q h hq)).ins k i hi
          subst hPA
          obtain ⟨iop, ix, iy, i_n, imn, imx, is0, is1, is2, is3⟩ := i
          have i0 := hpi 0 _ rfl
          have i1 := hpi 1 _ rfl
          have i2 := hpi 2 _ rfl
          have i3 := hpi 3 _ rfl
          have i4 := hpi 4 _ rfl
          have i5 := hpi 5 _ rfl
          have i6 := hpi 6 _ rfl
          have i7 := hpi 7 _ rfl
          have i8 := hpi 8 _ rfl
          have i9 := hpi 9 _ rfl
          rw [Nat.add_zero] at i0
          have HII := Lib.hid hi
          have hB1 := HB.out.frm hfr HDB.out.2.1
          have b0 := hB1.cell 0
          rw [h0] at b0
          have lb := hB1.lt
          have hI1 := Blk.new wr [.int .i64 iop, .int .i64 ix, .int .i64 iy, .int .i64 i_n, .int .i64 imn, .int .i64 imx, .int .u64 is0, .int .u64 is1, .int .u64 is2, .int .u64 is3] 39
          have hfq : Frm (fun _ => False) wr (wr.alloc (.cells #[.int .i64 iop, .int .i64 ix, .int .i64 iy, .int .i64 i_n, .int .i64 imn, .int .i64 imx, .int .u64 is0, .int .u64 is1, .int .u64 is2, .int .u64 is3] 39)) := (Frm.refl _ _).alloc _
          have hB2 := hB1.frm hfq (fun h => h)
          have hL2 := hL.frm hfq (fun h => h) (fun _ _ h => h)
          have hfr2 := hfr.trans (hfq.mono (fun _ h _ => h.elim))
          have hz : Hid (∀ rb, rb ∈ rbs → rb < wr.heap.size) := Lib.hid fun rb h => by
            obtain ⟨j, hj, e⟩ := List.getElem_of_mem h
            obtain ⟨r, hr⟩ : ∃ r, live2[j]? = some r := ⟨_, List.getElem?_eq_getElem (by rw [← hL.len]; exact hj)⟩
            rw [← e]
            exact (hL.row j r _ hr (List.getElem?_eq_getElem hj)).lt
          have HSW := Lib.hid (⟨hsw, hg1, hg2, hg3⟩ : _ ∧ _ ∧ _ ∧ _)
          clear hi hpi hsw hg1 hg2 hg3 hL hfr hB1
          go_upto_region 7 with fail
          clear i0 i1 i2 i3 i4 i5 i6 i7 i8 i9 b0 lb hpb
          generalize wr.alloc (.cells #[.int .i64 iop, .int .i64 ix, .int .i64 iy, .int .i64 i_n, .int .i64 imn, .int .i64 imx, .int .u64 is0, .int .u64 is1, .int .u64 is2, .int .u64 is3] 39) = w2 at *
          obtain ⟨bI, hbI⟩ : ∃ bI, wr.heap.size = bI := ⟨_, rfl⟩
          simp only [hbI] at hI1 hz ⊢
          clear hbI
          have hbIr : bI ∉ rbs := fun h => by have := hz.out _ h; omega
          have b7 := hB2.cell 7
          rw [h7] at b7
          have lb := hB2.lt
          obtain ⟨rb, hrb, a1, a2, a7⟩ := hL2.rowAt (k := k) hsh (by rw [HN.out.1]; exact hkn)
          have lbL := hL2.out.lt
          have hm3 : M3 w G bL rbs ins slot ns k live2 LV (.bool fl) (.int .i64 0) w2 := ⟨0, fl, live2, rfl, rfl, by omega, rfl, hL2, hsh, hpo, hfr2, HSW.out.2.1, HSW.out.2.2.1, HSW.out.2.2.2⟩
          have HM3 := Lib.hid hm3
          have HK := Lib.hid hI1
          clear hm3 hL2 hsh hpo hfr2 hfq hB2 hI1
          go_wp2_with fail
          go_loopw [2, 38] (fun fv gv wr => M3 w G bL rbs ins slot ns k live2 LV fv gv wr ∧ Hid (Blk wr bI [.int .i64 iop, .int .i64 ix, .int .i64 iy, .int .i64 i_n, .int .i64 imn, .int .i64 imx, .int .u64 is0, .int .u64 is1, .int .u64 is2, .int .u64 is3] 39)) (fun _ gv _ => ns - (intOf gv).toNat)
          case atStart => exact ⟨HM3.out, HK⟩
          case round =>
            clear HM3 HK b7 lb a1 lbL
            obtain ⟨⟨g, fl, live3, rfl, rfl, hg, hro, hL, hsh, hpo, hfr, hg1, hg2, hg3⟩, HK⟩ := hrel
            by_cases hgn : g < ns
            · have hT := Blk.new wr [.bool false, .bool false] 101
              have hfq : Frm (fun _ => False) wr (wr.alloc (.cells #[.bool false, .bool false] 101)) := (Frm.refl _ _).alloc _
              have hL3 := hL.frm hfq (fun h => h) (fun _ _ h => h)
              have hI3 := HK.out.frm hfq (fun h => h)
              have hfr3 := hfr.trans (hfq.mono (fun _ h _ => h.elim))
              have HGG := Lib.hid (⟨hro, hg1, hg2, hg3⟩ : _ ∧ _ ∧ _ ∧ _)
              have hbIw := HK.out.lt
              have hz3 : Hid (∀ rb, rb ∈ rbs → rb < wr.heap.size) := Lib.hid fun rb h => by
                obtain ⟨j, hj, e⟩ := List.getElem_of_mem h
                obtain ⟨r, hr⟩ : ∃ r, live3[j]? = some r := ⟨_, List.getElem?_eq_getElem (by rw [← hL.len]; exact hj)⟩
                rw [← e]
                exact (hL.row j r _ hr (List.getElem?_eq_getElem hj)).lt
              have hbLw := hL.out.lt
              have hB3 := (HB.out.frm hfr HDB.out.2.1)
              have hbw := hB3.lt
              have hwsz := hfr.size
              clear hro hg1 hg2 hg3 hL hfr hfq
              go_upto_region 11 with fail
              generalize wr.alloc (.cells #[.bool false, .bool false] 101) = w3 at *
              obtain ⟨bT, hbT⟩ : ∃ bT, wr.heap.size = bT := ⟨_, rfl⟩
              simp only [hbT] at hT hz3 hbIw hbLw hbw hwsz ⊢
              clear hbT hB3
              have hbTr : bT ∉ rbs := fun h => by have := hz3.out _ h; omega
              have j0 := hI3.cell 0
              have j1 := hI3.cell 1
              have j2 := hI3.cell 2
              have j3 := hI3.cell 3
              have j4 := hI3.cell 4
              have j5 := hI3.cell 5
              have j6 := hI3.cell 6
              have j7 := hI3.cell 7
              have j8 := hI3.cell 8
              have j9 := hI3.cell 9
              simp only [List.getElem?_cons_zero, List.getElem?_cons_succ] at j0 j1 j2 j3 j4 j5 j6 j7 j8 j9
              have li := hI3.lt
              obtain ⟨ts, hts⟩ : ∃ ts, leadsS ⟨iop, ix, iy, i_n, imn, imx, is0, is1, is2, is3⟩ k = ts := ⟨_, rfl⟩
              have hok := HOK.out.to_ k _ HII.out
              rw [hts] at hok
              have hll : (leadsI ⟨iop, ix, iy, i_n, imn, imx, is0, is1, is2, is3⟩ k).length = ts.length := by rw [hok.1, List.length_map]
              have htl : ts.length ≤ 2 := by rw [← hts]; unfold leadsS; split; simp; split; simp; split <;> simp
              have HLC := Lib.hid (leadsC ⟨iop, ix, iy, i_n, imn, imx, is0, is1, is2, is3⟩ k w3 (by omega))
              rw [hll, hok.1] at HLC
              have HTS := Lib.hid (⟨hts, hok.2⟩ : _ ∧ _)
              clear hok hll hts
              go_wp2_with fail
              refine HLC.out.mono ?_
              rintro e w4 ⟨v, rfl, hs4, hf4⟩
              obtain ⟨Av, cv, rfl⟩ := hs4.form
              have hT4 := hT.frm hf4 (fun h => h)
              have hz34 := hf4.size
              have hlT := hT.lt
              have HS4 := Lib.hid hs4
              have HW4 := Lib.hid (⟨hL3.frm hf4 (fun h => h) (fun _ _ h => h), hI3.frm hf4 (fun h => h), hfr3.trans (hf4.mono (fun _ h _ => h.elim))⟩ : _ ∧ _ ∧ _)
              clear j0 j1 j2 j3 j4 j5 j6 j7 j8 j9 li hs4 hf4 hL3 hI3 hfr3 hT
              go_wp2_with fail
              go_loopw [45] (fun jv wx => M4 w4 bT live3 g ts jv wx) (fun jv _ => ts.length - (intOf jv).toNat)
              case atStart => exact ⟨0, ⟨false, false⟩, rfl, by omega, rfl, Frm.refl _ _, hT4⟩
              case round =>
                clear hT4
                obtain ⟨j, ⟨lb_, lp_⟩, rfl, hj, hfold, hfj, hTj⟩ := hrel
                obtain ⟨wx, hwx⟩ : ∃ wx, wx = wr := ⟨_, rfl⟩
                subst hwx
                have t0 := hTj.cell 0
                have t1 := hTj.cell 1
                have tf0 := hTj.frozen 0
                have tf1 := hTj.frozen 1
                simp only [List.getElem?_cons_zero, List.getElem?_cons_succ] at t0 t1
                have lt_ := hTj.lt
                by_cases hjt : j < ts.length
                · obtain ⟨t, htj⟩ : ∃ t, ts[j]? = some t := ⟨_, List.getElem?_eq_getElem hjt⟩
                  have htn : t < n := by have := HTS.out.2 t (List.mem_of_getElem? htj); have := HN.out.1; omega
                  obtain ⟨ab, ao, rfl, hab, hac⟩ := (HS4.out.rd.frm hfj (fun q h e => by omega)).elem j hjt
                  have e0 := hac 0 (.int .i64 t) (by rw [Nat.mul_one, Nat.add_zero, List.getElem?_map, List.getElem?_map, htj]; rfl)
                  rw [Nat.mul_one, Nat.add_zero] at e0
                  obtain ⟨rt, hrt, a1', a2', a3', a4', _, _, _⟩ := (HW4.out.1.frm hfj (fun e => by omega) (fun rb h e => hbTr (e ▸ h))).at_ (k := t) (g := g) hsh (by rw [HN.out.1]; exact htn) hgn
                  have hrtT : rt < bT := hz3.out rt (List.mem_of_getElem? hrt)
                  have n1 : rt ≠ bT := by omega
                  have n2 : bT ≠ rt := by omega
                  have n3 : bL ≠ bT := by omega
                  have n4 : bT ≠ bL := by omega
                  have n5 : b ≠ bT := by omega
                  have n6 : bT ≠ b := by omega
                  have hBj := (HB.out.frm HW4.out.2.2 HDB.out.2.1).frm hfj n5
                  have b7 := hBj.cell 7
                  rw [h7] at b7
                  have lb := hBj.lt
                  have lbL := (HW4.out.1.frm hfj (fun e => by omega) (fun rb h e => hbTr (e ▸ h))).out.lt
                  have hfold2 : (ts.take (j + 1)).foldl (fun l t => (⟨l.began || (lv live3 t g).began, l.part || (lv live3 t g).part⟩ : Lv)) ⟨false, false⟩ = ⟨lb_ || (lv live3 t g).began, lp_ || (lv live3 t g).part⟩ := by
                    rw [List.take_add_one, htj, Option.toList_some, List.foldl_append, ← hfold]; rfl
                  obtain ⟨⟨xb, xp⟩, hx⟩ : ∃ x, lv live3 t g = x := ⟨_, rfl⟩
                  rw [hx] at a3' a4' hfold2
                  simp only at a3' a4' hfold2
                  have HRR : Hid (∀ v0 v1, (lb_ || xb) = v0 → (lp_ || xp) = v1 → M4 w4 bT live3 g ts (.int .i64 ((j + 1 : Nat) : Int)) ((wx.setCell ⟨bT, 0, none⟩ (.bool v0)).setCell ⟨bT, 1, none⟩ (.bool v1))) := Lib.hid fun v0 v1 h0 h1 => ⟨j + 1, ⟨v0, v1⟩, rfl, by omega, by rw [hfold2, h0, h1], (hfj.set bT 0 _ (fun _ => rfl)).set bT 1 _ (fun _ => rfl), (hTj.setSame 0 _).setSame 1 _⟩
                  have hwk : IntKind.i64.wrap ((j : Int) + 1) = ((j + 1 : Nat) : Int) := by rw [IntWalk.i64_in _ (by omega)]; omega
                  clear hfold hfold2 hx htj hac hfj hTj hBj hrt hrtT
                  cases lb_ <;> cases lp_
                  all_goals
                    go_wp2_with fail
                    go_roundw
                    case measure => simp [intOf] <;> omega
                    case rel => exact HRR.out _ _ rfl rfl
                · obtain rfl : j = ts.length := by omega
                  rw [List.take_of_length_le (Nat.le_refl _)] at hfold
                  have hI5 := HW4.out.2.1.frm hfj (fun e => by omega)
                  have hL5 := HW4.out.1.frm hfj (fun e => by omega) (fun rb h e => hbTr (e ▸ h))
                  have hB5 := (HB.out.frm HW4.out.2.2 HDB.out.2.1).frm hfj (fun e => by omega)
                  have hS5 := (HIS.out.2.low.frm HW4.out.2.2 (fun q hq h => HDB.out.1 q h hq.1)).frm hfj (fun q hq e => by have := hq.2; omega)
                  obtain ⟨M, hM⟩ : ∃ M, markOne slot live3 ⟨iop, ix, iy, i_n, imn, imx, is0, is1, is2, is3⟩ k g = M := ⟨_, rfl⟩
                  obtain ⟨mnb, hmn⟩ : ∃ mnb, decide (iop = 6 ∨ iop = 7 ∨ iop = 8) = mnb := ⟨_, rfl⟩
                  obtain ⟨mg, hmg⟩ : ∃ mg, decide ((iop = 6 ∨ iop = 7 ∨ iop = 8) ∧ slot.getD i_n.toNat (-1) = (g : Int)) = mg := ⟨_, rfl⟩
                  have hM2 : (if mg = true then (if iop = 6 then ⟨false, lp_⟩ else if iop = 7 then ⟨true, false⟩ else ⟨lb_, true⟩) else ⟨lb_, lp_⟩) = M := by
                    rw [← hM]
                    unfold markOne
                    simp only
                    rw [HTS.out.1, ← hfold, ← hmg]
                    simp only [decide_eq_true_eq]
                  have HMM := Lib.hid (⟨hM, hM2⟩ : _ ∧ _)
                  have HMN := Lib.hid hmn
                  have HMG := Lib.hid hmg
                  have hgr := HOK.out.gr k _ HII.out
                  simp only at hgr
                  have HGR := Lib.hid hgr
                  have HLB := Lib.hid (⟨hL5, hB5, hI5, hfj⟩ : _ ∧ _ ∧ _ ∧ _)
                  have j0 := hI5.cell 0
                  have j3 := hI5.cell 3
                  simp only [List.getElem?_cons_zero, List.getElem?_cons_succ] at j0 j3
                  have li := hI5.lt
                  have b5 := hB5.cell 5
                  rw [h5] at b5
                  have lb := hB5.lt
                  clear hfold hM hM2 hmn hmg hgr hL5 hI5 hB5 hfj
                  go_upto_region 17 with fail
                  go_cut [9] from 82 to 94 (fun v wy => v = .bool mnb ∧ wy = wx)
                  case first =>
                    by_cases o6 : iop = 6
                    · obtain rfl : mnb = true := by rw [← HMN.out]; exact decide_eq_true (.inl o6)
                      subst o6
                      go_wp2_with fail
                      go_meet
                      exact ⟨rfl, rfl⟩
                    have u6 : (iop == 6) = false := by simpa using o6
                    by_cases o7 : iop = 7
                    · obtain rfl : mnb = true := by rw [← HMN.out]; exact decide_eq_true (.inr (.inl o7))
                      subst o7
                      go_wp2_with fail
                      go_meet
                      exact ⟨rfl, rfl⟩
                    have u7 : (iop == 7) = false := by simpa using o7
                    by_cases o8 : iop = 8
                    · obtain rfl : mnb = true := by rw [← HMN.out]; exact decide_eq_true (.inr (.inr o8))
                      subst o8
                      go_wp2_with fail
                      go_meet
                      exact ⟨rfl, rfl⟩
                    have u8 : (iop == 8) = false := by simpa using o8
                    obtain rfl : mnb = false := by rw [← HMN.out]; exact decide_eq_false (by omega)
                    go_wp2_with fail
                    go_meet
                    exact ⟨rfl, rfl⟩
                  case rest =>
                    obtain ⟨rfl, hwc⟩ := hcut
                    have hwc2 := hwc.symm
                    subst hwc2
                    go_upto_region 18 with fail
                    go_cut [107] from 95 to 107 (fun v wy => v = .bool mg ∧ ∃ q, wy = wx.drewN q)
                    case first =>
                      cases mnb with
                      | false =>
                        obtain rfl : mg = false := by rw [← HMG.out]; exact decide_eq_false (fun h => of_decide_eq_false HMN.out h.1)
                        go_wp2_with fail
                        go_quiet (fail)
                        go_wp2_with fail
                        go_meet
                        exact ⟨rfl, _, rfl⟩
                      | true =>
                        obtain ⟨q1, q2⟩ := HGR.out (of_decide_eq_true HMN.out)
                        obtain ⟨kn, rfl⟩ := Int.eq_ofNat_of_zero_le q1
                        rw [Int.toNat_natCast] at q2
                        have hsn : slot.length = sn := by have := hS5.len; rw [List.length_map] at this; omega
                        have hkn2 : kn < sn := by omega
                        obtain ⟨sb, so, rfl, hsb, hsc⟩ := hS5.elem kn hkn2
                        obtain ⟨sg, hsg⟩ : ∃ sg, slot[kn]? = some sg := ⟨_, List.getElem?_eq_getElem q2⟩
                        have s0 := hsc 0 (.int .i64 sg) (by rw [Nat.mul_one, Nat.add_zero, List.getElem?_map, hsg]; rfl)
                        rw [Nat.mul_one, Nat.add_zero] at s0
                        have hmv : (sg == (g : Int)) = mg := by
                          rw [← HMG.out, Int.toNat_natCast, List.getD_eq_getElem?_getD, hsg, Option.getD_some]
                          have := of_decide_eq_true HMN.out
                          by_cases e : sg = (g : Int)
                          · simp [e, this]
                          · simp [e]
                        clear hsc hsg hsn q1 q2
                        go_wp2_with fail
                        go_quiet (fail)
                        go_wp2_with fail
                        go_meet
                        exact ⟨by first | rfl | simp, _, rfl⟩
                    case rest =>
                      obtain ⟨rfl, q, hwq⟩ := hcut
                      have hfq : Frm (fun _ => False) wx wc := by rw [hwq]; exact (Frm.refl _ _).drewN _
                      obtain ⟨w6, hw6⟩ : ∃ w6, w6 = wc := ⟨_, rfl⟩
                      subst hw6
                      have hL6 := HLB.out.1.frm hfq (fun h => h) (fun _ _ h => h)
                      have hB6 := HLB.out.2.1.frm hfq (fun h => h)
                      have hI6 := HLB.out.2.2.1.frm hfq (fun h => h)
                      have hT6 := hTj.frm hfq (fun h => h)
                      have hF6 := HLB.out.2.2.2.trans (hfq.mono (fun _ h _ => h.elim))
                      have HLB := Lib.hid (⟨hL6, hB6, hI6, hF6⟩ : _ ∧ _ ∧ _ ∧ _)
                      clear hwq hfq hwc hTj t0 t1 tf0 tf1 lt_ j0 j3 li b5 lb hL6 hB6 hF6 HMN HGR hS5
                      have t0 := hT6.cell 0
                      have t1 := hT6.cell 1
                      have tf0 := hT6.frozen 0
                      have tf1 := hT6.frozen 1
                      simp only [List.getElem?_cons_zero, List.getElem?_cons_succ] at t0 t1
                      have lt_ := hT6.lt
                      have j0 := hI6.cell 0
                      simp only [List.getElem?_cons_zero, List.getElem?_cons_succ] at j0
                      have li := hI6.lt
                      have n5 : bI ≠ bT := by omega
                      have n6 : bT ≠ bI := by omega
                      go_upto_if 107 with (fail)
                      go_cut [] from 108 to 118 (fun wy => Blk wy bT [.bool M.began, .bool M.part] 101 ∧ Frm (fun q => q = bT) w6 wy)
                      case first =>
                        cases mg with
                        | false =>
                          have hm := HMM.out.2
                          rw [if_neg (by simp)] at hm
                          go_wp2_with fail
                          go_meet
                          exact ⟨by rw [← hm]; exact hT6, Frm.refl _ _⟩
                        | true =>
                          have hm := HMM.out.2
                          rw [if_pos rfl] at hm
                          have ho := (of_decide_eq_true HMG.out).1
                          by_cases o6 : iop = 6
                          · subst o6
                            rw [if_pos rfl] at hm
                            go_wp2_with fail
                            go_meet
                            exact ⟨by rw [← hm]; exact hT6.setSame 0 _, (Frm.refl _ _).set bT 0 _ (fun _ => rfl)⟩
                          have u6 : (iop == 6) = false := by simpa using o6
                          by_cases o7 : iop = 7
                          · subst o7
                            rw [if_neg o6, if_pos rfl] at hm
                            go_wp2_with fail
                            go_meet
                            exact ⟨by rw [← hm]; exact (hT6.setSame 0 _).setSame 1 _, ((Frm.refl (fun q => q = bT) _).set bT 0 _ (fun _ => rfl)).set bT 1 _ (fun _ => rfl)⟩
                          have u7 : (iop == 7) = false := by simpa using o7
                          obtain rfl : iop = 8 := by omega
                          rw [if_neg o6, if_neg o7] at hm
                          go_wp2_with fail
                          go_meet
                          exact ⟨by rw [← hm]; exact hT6.setSame 1 _, (Frm.refl _ _).set bT 1 _ (fun _ => rfl)⟩
                      case rest =>
                        obtain ⟨hT7, hf67⟩ := hcut
                        obtain ⟨w7, hw7⟩ : ∃ w7, w7 = wc := ⟨_, rfl⟩
                        subst hw7
                        have hL7 := HLB.out.1.frm hf67 (fun e => by omega) (fun rb h e => hbTr (e ▸ h))
                        have hB7 := HLB.out.2.1.frm hf67 (fun e => by omega)
                        have hI7 := HLB.out.2.2.1.frm hf67 n5
                        have hF7 : Frm (fun q => q ∈ rbs) w w7 := ((HW4.out.2.2.then (HLB.out.2.2.2) (fun i hi hl => by omega))).then hf67 (fun i hi hl => by omega)
                        obtain ⟨rk, hrk, a1', a2', a3', a4', a5', a6', a7'⟩ := hL7.at_ (k := k) (g := g) hsh (by rw [HN.out.1]; exact hkn) hgn
                        have hrkT : rk < bT := hz3.out rk (List.mem_of_getElem? hrk)
                        have lbL := hL7.out.lt
                        have b7 := hB7.cell 7
                        rw [h7] at b7
                        have lb := hB7.lt
                        obtain ⟨⟨ob, op⟩, hold⟩ : ∃ x, lv live3 k g = x := ⟨_, rfl⟩
                        rw [hold] at a3' a4'
                        simp only at a3' a4'
                        obtain ⟨mb, mp⟩ := M
                        clear t0 t1 tf0 tf1 lt_ j0 li
                        have t0 := hT7.cell 0
                        have t1 := hT7.cell 1
                        simp only [List.getElem?_cons_zero, List.getElem?_cons_succ] at t0 t1
                        have lt_ := hT7.lt
                        have HST := Lib.hid (cellM_step (k := k) (g := g) hsh hpo HII.out hgn)
                        have hce : cellM ins slot k g live3 = setLv live3 k g ⟨mb, mp⟩ := by
                          unfold cellM
                          rw [HII.out]
                          simp only [HMM.out.1]
                        have HCE := Lib.hid hce
                        have HOLD := Lib.hid hold
                        have HF7 := Lib.hid hF7
                        have HL7 := Lib.hid (⟨hL7, hI7, hrk⟩ : _ ∧ _ ∧ _)
                        have HPO := Lib.hid (⟨hsh, hpo⟩ : _ ∧ _)
                        clear hL7 hB7 hI7 hF7 hold hce hf67 hT6 hrk
                        have hgu := eqGuard101
                        have hwk : IntKind.i64.wrap ((g : Int) + 1) = ((g + 1 : Nat) : Int) := by rw [IntWalk.i64_in _ (by omega)]; omega
                        by_cases hme : (⟨mb, mp⟩ : Lv) = ⟨ob, op⟩
                        · have he : eqLv ⟨mb, mp⟩ ⟨ob, op⟩ = true := decide_eq_true hme
                          have hnx : cellM ins slot k g live3 = live3 := HST.out.1 (by rw [HMM.out.1, HOLD.out]; exact hme)
                          have HNX := Lib.hid hnx
                          clear hnx hme
                          go_wp2_with fail
                          go_quiet (fail)
                          have hfq := (Frm.refl (fun _ => False) w7).drewN nq
                          have hm3 : M3 w G bL rbs ins slot ns k live2 LV (.bool fl) (.int .i64 ((g + 1 : Nat) : Int)) (w7.drewN nq) ∧ Hid (Blk (w7.drewN nq) bI [.int .i64 iop, .int .i64 ix, .int .i64 iy, .int .i64 i_n, .int .i64 imn, .int .i64 imx, .int .u64 is0, .int .u64 is1, .int .u64 is2, .int .u64 is3] 39) :=
                            ⟨⟨g + 1, fl, live3, rfl, rfl, by omega, by rw [rowM, ← HGG.out.1, HNX.out], HL7.out.1.frm hfq (fun h => h) (fun _ _ h => h), HPO.out.1, HPO.out.2, HF7.out.trans (hfq.mono (fun _ h _ => h.elim)), HGG.out.2.1, HGG.out.2.2.1, HGG.out.2.2.2⟩, Lib.hid (HL7.out.2.1.frm hfq (fun h => h))⟩
                          have HM3 := Lib.hid hm3
                          clear hm3 hfq
                          go_wp2_with fail
                          go_roundw
                          case measure => simp [intOf] <;> omega
                          case rel => exact HM3.out
                        · have he : eqLv ⟨mb, mp⟩ ⟨ob, op⟩ = false := decide_eq_false hme
                          have hst := HST.out.2 (by rw [HMM.out.1, HOLD.out]; exact hme)
                          rw [HCE.out] at hst
                          have HST2 := Lib.hid hst
                          clear hst hme
                          go_wp2_with fail
                          go_quiet (fail)
                          have hfq := (Frm.refl (fun _ => False) w7).drewN nq
                          have hL8 := HL7.out.1.frm hfq (fun h => h) (fun _ _ h => h)
                          have hI8 := HL7.out.2.1.frm hfq (fun h => h)
                          have hF8 := HF7.out.trans (hfq.mono (fun _ h _ => h.elim))
                          have hL9 := hL8.set HPO.out.1 (k := k) (g := g) (by rw [HN.out.1]; exact hkn) hgn HL7.out.2.2 a7' ⟨mb, mp⟩
                          have hrm : rk ∈ rbs := List.mem_of_getElem? HL7.out.2.2
                          have n7 : bI ≠ rk := fun e => hbIr (e ▸ hrm)
                          have hI9 := (hI8.setOther rk (g * 2) (.bool mb) n7).setOther rk (g * 2 + 1) (.bool mp) n7
                          have hF9 := (hF8.set rk (g * 2) (.bool mb) (fun _ => hrm)).set rk (g * 2 + 1) (.bool mp) (fun _ => hrm)
                          have hm3 : M3 w G bL rbs ins slot ns k live2 LV (.bool true) (.int .i64 ((g + 1 : Nat) : Int)) (((w7.drewN nq).setCell ⟨rk, g * 2, none⟩ (.bool mb)).setCell ⟨rk, g * 2 + 1, none⟩ (.bool mp)).drew ∧ Hid (Blk (((w7.drewN nq).setCell ⟨rk, g * 2, none⟩ (.bool mb)).setCell ⟨rk, g * 2 + 1, none⟩ (.bool mp)).drew bI [.int .i64 iop, .int .i64 ix, .int .i64 iy, .int .i64 i_n, .int .i64 imn, .int .i64 imx, .int .u64 is0, .int .u64 is1, .int .u64 is2, .int .u64 is3] 39) :=
                            ⟨⟨g + 1, true, setLv live3 k g ⟨mb, mp⟩, rfl, rfl, by omega, by rw [rowM, ← HGG.out.1, HCE.out], hL9.frm ((Frm.refl (fun _ => False) _).drew) (fun h => h) (fun _ _ h => h), setLv_shp HPO.out.1, by rw [← HCE.out]; exact cellM_post HPO.out.1 HPO.out.2 hgn, hF9.drew, fun h => (by cases h), fun _ => by have := HST2.out; have := HGG.out.2.2.2; omega, by have := HST2.out; have := HGG.out.2.2.2; omega⟩, Lib.hid hI9.drew⟩
                          have HM3 := Lib.hid hm3
                          have n8 : rk ≠ bT := by omega
                          have n9 : bT ≠ rk := by omega
                          clear hm3 hfq hL8 hI8 hF8 hL9 hI9 hF9 n7
                          go_wp2_with fail
                          go_region
                          all_goals
                            go_wp2_with fail
                            go_roundw
                            case measure => simp [intOf] <;> omega
                            case rel => exact HM3.out
            · obtain rfl : g = ns := by omega
              have hm2 : M2 w G bL rbs ins slot g LV (.bool fl) (.int .i64 ((k : Int) - 1)) wr := ⟨k, fl, live3, rfl, rfl, by rw [HN.out.1]; omega, by rw [← HSW.out.1, sweepM, hro], hL, hsh, hpo, hfr, hg1, hg2, hg3⟩
              have HM2 := Lib.hid hm2
              have hwk : IntKind.i64.wrap ((k : Int) - 1) = (k : Int) - 1 := IntWalk.i64_in _ (by omega)
              clear hm2 hro hL hsh hpo hfr hg1 hg2 hg3
              go_wp2_with fail
              go_roundw
              case measure => simp [intOf] <;> omega
              case rel => exact HM2.out
end Go.Proofs.Ytoadmpochaeohaa
end
