/-
  Layer 20: on, walked: operation 10.
-/
import Derived.Test.YtoadmpochaeohaaPa7
import Derived.Test.YtoadmpochaeohaaPa5
import Derived.Test.YtoadmpochaeohaaPa11
import Derived.Test.YtoadmpochaeohaaPa8
import Derived.Test.YtoadmpochaeohaaPa9
import Derived.Test.YtoadmpochaeohaaPa10
import Derived.Test.YtoadmpochaeohaaPa3
section
set_option linter.unusedVariables false
set_option linter.unusedSimpArgs false
set_option maxRecDepth 100000
namespace Go.Proofs.Ytoadmpochaeohaa
open Go.RowKit

set_option maxHeartbeats 16000000 in
theorem on10M {E D : Nat → Prop} {b g bm : Nat} {s : Stt} {m : Mc} {line : ByteArray} {pile : List Fr} {seen : List Key} {steps kept : Nat} {parts : List Pt} {turns : List Tn} {A B : Option Addr} {n cA k d : Nat} {w : World} (pc at_ : Nat) (i : Ins)
    (hM : MM w E D b g bm s m line pile seen steps kept) (hc : CfR w D parts turns A n cA B k d) (hb : pile.length ≤ 1073741000) (hi : m.ins[pc]? = some i) (hpc : pc ≤ 40000) (hat : at_ ≤ line.size) (hls : line.size ≤ 1048576) (hop : i.op = 10) (hwf : 0 ≤ i.x ∧ 0 ≤ i.y ∧ 0 ≤ i.n) (t : Tn) (ht : turns[i.n.toNat]? = some t) (mv : Int) (hmv : m.most[i.n.toNat]? = some mv) (htm : 0 ≤ t.many ∧ t.many ≤ 1048576) (hkk : turns.length ≤ 1000) :
    Calls Try.prog 56 #[.pointer (some ⟨b, 0, none⟩), .agg #[.int .i64 pc, .int .i64 at_, .slice A n cA, .slice B k d]] w fun e w' => e = .returned (.tuple #[]) ∧ MX w E D w' b g bm s m line ((onS m line.toList ⟨pc, at_, parts, turns⟩).reverse.map .look ++ pile) seen steps kept := by
  have hlen : line.toList.length = line.size := by rw [ByteArray.toList_eq]; simp
  obtain ⟨iop, ix, iy, i_n, imn, imx, is0, is1, is2, is3⟩ := i
  simp only at hop hwf
  subst hop
  obtain ⟨q, rfl⟩ := Int.eq_ofNat_of_zero_le hwf.1
  obtain ⟨r, rfl⟩ := Int.eq_ofNat_of_zero_le hwf.2.1
  obtain ⟨kn, rfl⟩ := Int.eq_ofNat_of_zero_le hwf.2.2
  have HT := Lib.hid (⟨ht, hmv, htm⟩ : _ ∧ _ ∧ _)
  clear ht hmv htm
  obtain ⟨NX, hNX⟩ : ∃ NX, (onS m line.toList ⟨pc, at_, parts, turns⟩).reverse.map Fr.look ++ pile = NX := ⟨_, rfl⟩
  rw [hNX]
  have HNX := Lib.hid hNX
  clear hNX
  have HLEN := Lib.hid hlen
  clear hlen
  have HI := Lib.hid hi
  have hX := Blk.new w [.int .i64 pc, .int .i64 at_, .slice A n cA, .slice B k d] 129
  have hf0 : Frm (fun _ => False) w (w.alloc (.cells #[.int .i64 pc, .int .i64 at_, .slice A n cA, .slice B k d] 129)) := (Frm.refl _ w).alloc _
  obtain ⟨E1, D1, hL, hM0, hC0, hEl, hDl⟩ := hM.start hc
  have HDL := Lib.hid hDl
  have hM1 := hM0.frm hf0
  have hC1 := hC0.frm hf0 (fun _ _ h => h)
  have hL1 := hL.quiet hf0
  have HEL := Lib.hid hEl
  obtain ⟨PA, pn, pcap, SA, sn, sc, MA, mn, mc, LA, ln, lc, gr, co⟩ := s
  have hPI := hM1.sta.ins
  simp only at hPI
  obtain ⟨pb, po, rfl, hpb, hpi⟩ := hPI.ins pc _ hi
  have i0 := hpi 0 _ rfl
  have i1 := hpi 1 _ rfl
  have i2 := hpi 2 _ rfl
  have i3 := hpi 3 _ rfl
  have i4 := hpi 4 _ rfl
  have i5 := hpi 5 _ rfl
  have i6 := hpi 6 _ rfl
  have i7 := hpi 7 _ rfl
  have i8 := hpi 8 _ rfl
  have i9 := hpi 9 _ rfl
  rw [Nat.add_zero] at i0
  have hpn : pc < pn := by
    have h1 := hPI.len
    rw [flatI_len] at h1
    have h2 := (List.getElem?_eq_some_iff.1 hi).1
    omega
  have b0 := hM1.obj.cell 0
  simp only [cellsB, List.getElem?_cons_zero, List.getElem?_cons_succ] at b0
  have lb := hM1.obj.lt
  have HWS : Hid (w.heap.size < (w.alloc (.cells #[.int .i64 pc, .int .i64 at_, .slice A n cA, .slice B k d] 129)).heap.size) := Lib.hid hX.lt
  clear hi hpi hPI hM hc hM0 hC0 hL hEl hDl
  go_enter Try.func56, Try.ntmps56
  go_upto_region 1 with fail
  generalize w.alloc (.cells #[.int .i64 pc, .int .i64 at_, .slice A n cA, .slice B k d] 129) = w1 at *
  generalize hbX : w.heap.size = bX at *
  have HBX := Lib.hid hbX
  clear hbX
  obtain ⟨x0, x1, x2, x3, y0, y1, y2, y3, lx⟩ := blk4 hX
  go_wp2_with fail
  go_region
  have hX2 := (hX.alloc (.cells #[.int .i64 10, .int .i64 (q : Int), .int .i64 (r : Int), .int .i64 (kn : Int), .int .i64 imn, .int .i64 imx, .int .u64 is0, .int .u64 is1, .int .u64 is2, .int .u64 is3] 39)).drew
  have hI2 := (Blk.new w1 [.int .i64 10, .int .i64 (q : Int), .int .i64 (r : Int), .int .i64 (kn : Int), .int .i64 imn, .int .i64 imx, .int .u64 is0, .int .u64 is1, .int .u64 is2, .int .u64 is3] 39).drew
  have hf12 : Frm (fun _ => False) w1 (w1.alloc (.cells #[.int .i64 10, .int .i64 (q : Int), .int .i64 (r : Int), .int .i64 (kn : Int), .int .i64 imn, .int .i64 imx, .int .u64 is0, .int .u64 is1, .int .u64 is2, .int .u64 is3] 39)).drew := ((Frm.refl _ w1).alloc _).drew
  have HL2 := Lib.hid (hL1.quiet hf12)
  have hM2 := hM1.frm hf12
  have hC2 := hC1.frm hf12 (fun _ _ h => h)
  clear x0 x1 x2 x3 y0 y1 y2 y3 lx i0 i1 i2 i3 i4 i5 i6 i7 i8 i9 b0 lb hpb hM1 hC1 hX hf0 hf12 hL1
  generalize (w1.alloc (.cells #[.int .i64 10, .int .i64 (q : Int), .int .i64 (r : Int), .int .i64 (kn : Int), .int .i64 imn, .int .i64 imx, .int .u64 is0, .int .u64 is1, .int .u64 is2, .int .u64 is3] 39)).drew = w2 at *
  obtain ⟨bI, hbI⟩ : ∃ bI, w1.heap.size = bI := ⟨_, rfl⟩
  simp only [hbI] at hI2 ⊢
  have HBI : Hid (bX < bI) := Lib.hid (by have := HWS.out; omega)
  have HEX : Hid (¬ E1 bX ∧ ¬ E1 bI) := Lib.hid ⟨fun h => by have := HEL.out _ h; omega, fun h => by have := HEL.out _ h; have := HBI.out; omega⟩
  have HSZ : Hid (bX < w2.heap.size) := Lib.hid (by have := HBI.out; have := hI2.lt; omega)
  clear hbI HWS
  have hwp : IntKind.i64.wrap ((pc : Int) + 1) = ((pc + 1 : Nat) : Int) := by rw [IntWalk.i64_in _ (by omega)]; omega
  obtain ⟨x0, x1, x2, x3, y0, y1, y2, y3, lx⟩ := blk4 hX2
  have j0 := hI2.cell 0
  have j1 := hI2.cell 1
  have j2 := hI2.cell 2
  have j3 := hI2.cell 3
  have j4 := hI2.cell 4
  have j5 := hI2.cell 5
  have j6 := hI2.cell 6
  have j7 := hI2.cell 7
  have j8 := hI2.cell 8
  have j9 := hI2.cell 9
  simp only [List.getElem?_cons_zero, List.getElem?_cons_succ] at j0 j1 j2 j3 j4 j5 j6 j7 j8 j9
  have li := hI2.lt
  go_wp2_with fail
  refine (turnM pc at_ ⟨10, (q : Int), (r : Int), (kn : Int), imn, imx, is0, is1, is2, is3⟩ hM2 hC2 (by omega) (by omega) (by omega) (by simp) (by simp) (by simp) t (by simpa using HT.out.1) mv (by simpa using HT.out.2.1) HT.out.2.2 hkk).mono ?_
  rintro e w9 ⟨rfl, hmx⟩
  go_wp2_with fail
  go_end0
  refine ⟨rfl, HL2.out.mxs ?_⟩
  rw [← HNX.out, on_turn m _ ⟨pc, at_, parts, turns⟩ _ HI.out rfl]
  exact hmx
end Go.Proofs.Ytoadmpochaeohaa
end

section
set_option linter.unusedVariables false
set_option linter.unusedSimpArgs false
set_option maxRecDepth 100000
namespace Go.Proofs.Ytoadmpochaeohaa
open Go.RowKit

def nsS (m : Mc) : Nat := (m.slot.filter (0 ≤ ·)).length
/-- What an instruction must be. -/
structure InsOk (m : Mc) (i : Ins) (k : Nat) : Prop where
  op : 1 ≤ i.op ∧ i.op ≤ 11
  tgt : ∀ t ∈ leadsS i k, t < m.ins.length
  xy : i.op = 2 ∨ i.op = 10 → 0 ≤ i.x ∧ 0 ≤ i.y
  x : i.op = 3 → 0 ≤ i.x
  gr : i.op = 6 ∨ i.op = 7 ∨ i.op = 8 → 0 ≤ i.n ∧ ∃ g, m.slot[i.n.toNat]? = some g ∧ g < nsS m ∧ (i.op = 8 → 0 ≤ g)
  co : i.op = 9 ∨ i.op = 10 → 0 ≤ i.n ∧ i.n.toNat < m.most.length
/-- What a machine must be. -/
structure MW (m : Mc) : Prop where
  ni : m.ins.length ≤ 40000
  ok : ∀ (k : Nat) (i : Ins), m.ins[k]? = some i → InsOk m i k
  ns : nsS m ≤ 1000
  nm : m.most.length ≤ 1000
  sl : m.slot.length ≤ 1000
  most : ∀ v ∈ m.most, 0 ≤ v ∧ v ≤ 1000000
  live : m.live.length = m.ins.length
  row : ∀ (k : Nat) (r : List Lv), m.live[k]? = some r → nsS m ≤ r.length
/-- What a configuration must be; N: the line's length. -/
structure CW (m : Mc) (N : Nat) (c : Cf) : Prop where
  pc : c.pc < m.ins.length
  at_ : c.at_ ≤ N
  np : c.parts.length = nsS m
  nt : c.turns.length = m.most.length
  p : ∀ p ∈ c.parts, (-1 ≤ p.began ∧ p.began ≤ c.at_) ∧ (-1 ≤ p.frm ∧ p.frm ≤ c.at_) ∧ (-1 ≤ p.til ∧ p.til ≤ c.at_) ∧ (0 ≤ p.frm → p.frm ≤ p.til)
  t : ∀ t ∈ c.turns, (0 ≤ t.many ∧ t.many ≤ 1000000) ∧ (-1 ≤ t.began ∧ t.began ≤ c.at_)
theorem CW.go {m : Mc} {N : Nat} {c : Cf} (h : CW m N c) {pc at_ : Nat} (hp : pc < m.ins.length) (ha : c.at_ ≤ at_) (hN : at_ ≤ N) : CW m N { c with pc := pc, at_ := at_ } :=
  ⟨hp, hN, h.np, h.nt, fun p hp => by have := h.p p hp; simp only; omega, fun t ht => by have := h.t t ht; simp only; omega⟩
theorem mem_set_or {α : Type} {l : List α} {k : Nat} {x y : α} (h : y ∈ l.set k x) : y ∈ l ∨ y = x := List.mem_or_eq_of_mem_set h
theorem CW.count {m : Mc} {N : Nat} {c : Cf} (h : CW m N c) {pc k : Nat} {t : Tn} (hp : pc < m.ins.length) (ht : (0 ≤ t.many ∧ t.many ≤ 1000000) ∧ (-1 ≤ t.began ∧ t.began ≤ c.at_)) : CW m N { countS c k t with pc := pc } :=
  ⟨hp, h.at_, h.np, by simp [countS, h.nt], h.p, fun u hu => by
    rcases mem_set_or hu with hu | rfl
    · exact h.t u hu
    · exact ht⟩
theorem brkS_len (l : List Pt) (g op at_ : Int) : (brkS l g op at_).length = l.length := by
  unfold brkS
  split
  · rfl
  · simp only; split <;> simp
theorem CW.brk {m : Mc} {N : Nat} {c : Cf} (h : CW m N c) {pc : Nat} {g op : Int} (hp : pc < m.ins.length) : CW m N { c with parts := brkS c.parts g op c.at_, pc := pc } := by
  refine ⟨hp, h.at_, by rw [← h.np]; exact brkS_len _ _ _ _, h.nt, fun p hpm => ?_, h.t⟩
  simp only at hpm ⊢
  unfold brkS at hpm
  split at hpm
  · exact h.p p hpm
  · have hq : (-1 ≤ (c.parts.getD g.toNat ⟨-1, -1, -1⟩).began ∧ (c.parts.getD g.toNat ⟨-1, -1, -1⟩).began ≤ c.at_) ∧ (-1 ≤ (c.parts.getD g.toNat ⟨-1, -1, -1⟩).frm ∧ (c.parts.getD g.toNat ⟨-1, -1, -1⟩).frm ≤ c.at_) ∧ (-1 ≤ (c.parts.getD g.toNat ⟨-1, -1, -1⟩).til ∧ (c.parts.getD g.toNat ⟨-1, -1, -1⟩).til ≤ c.at_) ∧ (0 ≤ (c.parts.getD g.toNat ⟨-1, -1, -1⟩).frm → (c.parts.getD g.toNat ⟨-1, -1, -1⟩).frm ≤ (c.parts.getD g.toNat ⟨-1, -1, -1⟩).til) := by
      rw [List.getD_eq_getElem?_getD]
      cases hx : c.parts[g.toNat]? with
      | none => simp only [Option.getD_none]; omega
      | some x => exact h.p x (List.mem_of_getElem? hx)
    generalize c.parts.getD g.toNat ⟨-1, -1, -1⟩ = q at *
    simp only at hpm
    split at hpm
    · rcases mem_set_or hpm with hpm | rfl
      · exact h.p p hpm
      · simp only; omega
    · rcases mem_set_or hpm with hpm | rfl
      · exact h.p p hpm
      · simp only
        split <;> omega
theorem leads_next {m : Mc} {i : Ins} {k : Nat} (h : InsOk m i k) (h1 : i.op ≠ 2) (h2 : i.op ≠ 10) (h3 : i.op ≠ 3) (h4 : i.op ≠ 11) : k + 1 < m.ins.length := h.tgt (k + 1) (by simp [leadsS, h1, h2, h3, h4])
theorem on_CW {m : Mc} {line : List UInt8} {c : Cf} (hW : MW m) (h : CW m line.length c) : ∀ c' ∈ onS m line c, CW m line.length c' := by
  intro c' hc'
  obtain ⟨i, hi⟩ : ∃ i, m.ins[c.pc]? = some i := ⟨_, List.getElem?_eq_getElem h.pc⟩
  have hI := hW.ok _ _ hi
  unfold onS at hc'
  rw [hi] at hc'
  simp only at hc'
  by_cases h1 : i.op = 1
  · rw [if_pos h1] at hc'
    split at hc'
    · rename_i x hx
      have := (List.getElem?_eq_some_iff.1 hx).1
      split at hc'
      · rw [List.mem_singleton] at hc'; subst hc'
        exact h.go (leads_next hI (by omega) (by omega) (by omega) (by omega)) (by omega) (by omega)
      · cases hc'
    · cases hc'
  rw [if_neg h1] at hc'
  by_cases h2 : i.op = 2
  · rw [if_pos h2] at hc'
    have ht : ∀ t, t = i.x.toNat ∨ t = i.y.toNat → t < m.ins.length := fun t ht => hI.tgt t (by simp [leadsS, h2, ht])
    simp only [List.mem_cons, List.not_mem_nil, or_false] at hc'
    rcases hc' with rfl | rfl
    · exact h.go (ht _ (.inr rfl)) (Nat.le_refl _) h.at_
    · exact h.go (ht _ (.inl rfl)) (Nat.le_refl _) h.at_
  rw [if_neg h2] at hc'
  by_cases h3 : i.op = 3
  · rw [if_pos h3] at hc'
    rw [List.mem_singleton] at hc'; subst hc'
    exact h.go (hI.tgt _ (by simp [leadsS, h3])) (Nat.le_refl _) h.at_
  rw [if_neg h3] at hc'
  by_cases h4 : i.op = 4
  · rw [if_pos h4] at hc'
    split at hc'
    · rw [List.mem_singleton] at hc'; subst hc'
      exact h.go (leads_next hI (by omega) (by omega) (by omega) (by omega)) (Nat.le_refl _) h.at_
    · cases hc'
  rw [if_neg h4] at hc'
  by_cases h5 : i.op = 5
  · rw [if_pos h5] at hc'
    split at hc'
    · rw [List.mem_singleton] at hc'; subst hc'
      exact h.go (leads_next hI (by omega) (by omega) (by omega) (by omega)) (Nat.le_refl _) h.at_
    · cases hc'
  rw [if_neg h5] at hc'
  by_cases h6 : i.op = 6 ∨ i.op = 7
  · rw [if_pos h6] at hc'
    rw [List.mem_singleton] at hc'; subst hc'
    obtain ⟨_, g, hg, _⟩ := hI.gr (by omega)
    rw [brk_eq m c i g hg]
    exact h.brk (leads_next hI (by omega) (by omega) (by omega) (by omega))
  rw [if_neg h6] at hc'
  by_cases h8 : i.op = 8
  · rw [if_pos h8] at hc'
    split at hc'
    · rename_i n hn
      rw [List.mem_singleton] at hc'; subst hc'
      unfold againS at hn
      split at hn
      · cases hn
      · rename_i p hp
        have hpp := h.p p (List.mem_of_getElem? hp)
        split at hn
        · cases hn
        · rename_i hno
          split at hn
          · injection hn with hn
            exact h.go (leads_next hI (by omega) (by omega) (by omega) (by omega)) (by omega) (by have := h.at_; omega)
          · cases hn
    · cases hc'
  rw [if_neg h8] at hc'
  by_cases h9 : i.op = 9
  · rw [if_pos h9] at hc'
    rw [List.mem_singleton] at hc'; subst hc'
    exact h.count (leads_next hI (by omega) (by omega) (by omega) (by omega)) (by simp only; omega)
  rw [if_neg h9] at hc'
  by_cases h10 : i.op = 10
  · rw [if_pos h10] at hc'
    have ht : ∀ t, t = i.x.toNat ∨ t = i.y.toNat → t < m.ins.length := fun t ht => hI.tgt t (by simp [leadsS, h10, ht])
    obtain ⟨hn0, hn1⟩ := hI.co (by omega)
    obtain ⟨t, htn⟩ : ∃ t, c.turns[i.n.toNat]? = some t := ⟨_, List.getElem?_eq_getElem (by rw [h.nt]; exact hn1)⟩
    obtain ⟨mo, hmo⟩ : ∃ t, m.most[i.n.toNat]? = some t := ⟨_, List.getElem?_eq_getElem hn1⟩
    have htb := h.t t (List.mem_of_getElem? htn)
    have hmb := hW.most mo (List.mem_of_getElem? hmo)
    simp only [List.getD_eq_getElem?_getD, htn, hmo, Option.getD_some] at hc'
    split at hc'
    · cases hc'
    · rcases List.mem_append.1 hc' with hc' | hc'
      · split at hc'
        · rw [List.mem_singleton] at hc'; subst hc'
          exact h.go (ht _ (.inr rfl)) (Nat.le_refl _) h.at_
        · cases hc'
      · split at hc'
        · rw [List.mem_singleton] at hc'; subst hc'
          exact h.count (ht _ (.inl rfl)) (by simp only; omega)
        · cases hc'
  rw [if_neg h10] at hc'
  cases hc'

theorem onM {E D : Nat → Prop} {b g bm : Nat} {s : Stt} {m : Mc} {line : ByteArray} {pile : List Fr} {seen : List Key} {steps kept : Nat} {A B : Option Addr} {n cA k d : Nat} {w : World} (c : Cf) (hW : MW m) (hcw : CW m line.size c)
    (hM : MM w E D b g bm s m line pile seen steps kept) (hc : CfR w D c.parts c.turns A n cA B k d) (hb : pile.length ≤ 1073741000) (hls : line.size ≤ 900000) :
    Calls Try.prog 56 #[.pointer (some ⟨b, 0, none⟩), .agg #[.int .i64 c.pc, .int .i64 c.at_, .slice A n cA, .slice B k d]] w fun e w' => e = .returned (.tuple #[]) ∧ MX w E D w' b g bm s m line ((onS m line.toList c).reverse.map .look ++ pile) seen steps kept := by
  obtain ⟨pc, at_, parts, turns⟩ := c
  have hpc := hcw.pc
  have hat := hcw.at_
  simp only at hc hpc hat ⊢
  obtain ⟨i, hi⟩ : ∃ i, m.ins[pc]? = some i := ⟨_, List.getElem?_eq_getElem hpc⟩
  have hI := hW.ok _ _ hi
  have hp4 : pc ≤ 40000 := by have := hW.ni; omega
  have hls2 : line.size ≤ 1048576 := by omega
  have hnp : parts.length ≤ 1000 := by have := hcw.np; have := hW.ns; simp only at *; omega
  have hnt : turns.length ≤ 1000 := by have := hcw.nt; have := hW.nm; simp only at *; omega
  have hop := hI.op
  have hops : i.op = 1 ∨ i.op = 2 ∨ i.op = 3 ∨ i.op = 4 ∨ i.op = 5 ∨ i.op = 6 ∨ i.op = 7 ∨ i.op = 8 ∨ i.op = 9 ∨ i.op = 10 ∨ i.op = 11 := by omega
  rcases hops with h | h | h | h | h | h | h | h | h | h | h
  · exact on1M pc at_ i hM hc hb hi hp4 hat hls2 h trivial
  · exact on2M pc at_ i hM hc hb hi hp4 hat hls2 h (hI.xy (by omega))
  · exact on3M pc at_ i hM hc hb hi hp4 hat hls2 h (hI.x h)
  · exact on4M pc at_ i hM hc hb hi hp4 hat hls2 h trivial
  · exact on5M pc at_ i hM hc hb hi hp4 hat hls2 h trivial
  · obtain ⟨h0, g, hg, hgn, _⟩ := hI.gr (by omega)
    exact on6M pc at_ i hM hc hb hi hp4 hat hls2 h h0 g hg (by have := hcw.np; simp only at this; omega) hnp
  · obtain ⟨h0, g, hg, hgn, _⟩ := hI.gr (by omega)
    exact on7M pc at_ i hM hc hb hi hp4 hat hls2 h h0 g hg (by have := hcw.np; simp only at this; omega) hnp
  · obtain ⟨h0, g, hg, hgn, hg0⟩ := hI.gr (by omega)
    obtain ⟨gn, rfl⟩ := Int.eq_ofNat_of_zero_le (hg0 h)
    obtain ⟨p, hp⟩ : ∃ p, parts[gn]? = some p := ⟨_, List.getElem?_eq_getElem (by have := hcw.np; simp only at this; omega)⟩
    have hpb := hcw.p p (List.mem_of_getElem? hp)
    simp only at hpb
    exact on8M pc at_ i hM hc hb hi hp4 hat hls2 h h0 gn p hg hp (by omega) (by omega) hpb.2.2.2
  · obtain ⟨h0, h1⟩ := hI.co (by omega)
    exact on9M pc at_ i hM hc hb hi hp4 hat hls2 h ⟨h0, by have := hcw.nt; simp only at this; omega⟩ hnt
  · obtain ⟨h0, h1⟩ := hI.co (by omega)
    obtain ⟨hx, hy⟩ := hI.xy (by omega)
    obtain ⟨t, ht⟩ : ∃ t, turns[i.n.toNat]? = some t := ⟨_, List.getElem?_eq_getElem (by have := hcw.nt; simp only at this; omega)⟩
    have htb := hcw.t t (List.mem_of_getElem? ht)
    simp only at htb
    exact on10M pc at_ i hM hc hb hi hp4 hat hls2 h ⟨hx, hy, h0⟩ t ht _ (List.getElem?_eq_getElem h1) (by omega) hnt
  · exact on11M pc at_ i hM hc hb hi hp4 hat hls2 h trivial
end Go.Proofs.Ytoadmpochaeohaa
end

section
set_option linter.unusedVariables false
set_option linter.unusedSimpArgs false
set_option maxRecDepth 100000
namespace Go.Proofs.Ytoadmpochaeohaa
open Go.RowKit

structure Shp (n ns : Nat) (live : List (List Lv)) : Prop where
  n : live.length = n
  r : ∀ (k : Nat) (r : List Lv), live[k]? = some r → r.length = ns
def cellM (ins : List Ins) (slot : List Int) (k g : Nat) (live : List (List Lv)) : List (List Lv) :=
  match ins[k]? with | some i => setLv live k g (markOne slot live i k g) | none => live
def rowM (ins : List Ins) (slot : List Int) (k : Nat) : Nat → List (List Lv) → List (List Lv)
  | 0, l => l
  | g + 1, l => cellM ins slot k g (rowM ins slot k g l)
def sweepM (ins : List Ins) (slot : List Int) (ns : Nat) : Nat → List (List Lv) → List (List Lv)
  | 0, l => l
  | k + 1, l => sweepM ins slot ns k (rowM ins slot k ns l)
def iterM {α : Type} (f : α → α) : Nat → α → α
  | 0, l => l
  | t + 1, l => f (iterM f t l)
def live0 (n ns : Nat) : List (List Lv) := List.replicate n (List.replicate ns ⟨false, false⟩)

def Lv.le (a b : Lv) : Prop := (a.began = true → b.began = true) ∧ (a.part = true → b.part = true)
theorem Lv.le.refl (a : Lv) : a.le a := ⟨id, id⟩
theorem Lv.le.trans {a b c : Lv} (h : a.le b) (k : b.le c) : a.le c := ⟨fun x => k.1 (h.1 x), fun x => k.2 (h.2 x)⟩

theorem setLv_shp {n ns k g : Nat} {l : Lv} {live : List (List Lv)} (h : Shp n ns live) : Shp n ns (setLv live k g l) := by
  refine ⟨by simp [setLv, h.n], fun j r hr => ?_⟩
  unfold setLv at hr
  rw [List.getElem?_set] at hr
  split at hr
  · rename_i hkj
    split at hr
    · rename_i hkl
      injection hr with hr
      subst hr
      rw [List.length_set]
      obtain ⟨r0, h0⟩ : ∃ r0, live[k]? = some r0 := ⟨_, List.getElem?_eq_getElem hkl⟩
      rw [List.getD_eq_getElem?_getD, h0]
      exact h.r k r0 h0
    · cases hr
  · exact h.r j r hr
theorem lv_setLv {n ns k g k' g' : Nat} {l : Lv} {live : List (List Lv)} (h : Shp n ns live) (hk : k < n) (hg : g < ns) : lv (setLv live k g l) k' g' = if k' = k ∧ g' = g then l else lv live k' g' := by
  obtain ⟨r0, h0⟩ : ∃ r0, live[k]? = some r0 := ⟨_, List.getElem?_eq_getElem (by rw [h.n]; exact hk)⟩
  have hr0 := h.r k r0 h0
  have hkl : k < live.length := by rw [h.n]; exact hk
  unfold lv setLv
  simp only [List.getD_eq_getElem?_getD, h0, Option.getD_some, List.getElem?_set]
  by_cases hkk : k' = k
  · subst hkk
    rw [if_pos rfl, if_pos hkl, Option.getD_some, List.getElem?_set]
    by_cases hgg : g' = g
    · subst hgg
      rw [if_pos rfl, if_pos (by omega), if_pos ⟨rfl, rfl⟩]
      rfl
    · rw [if_neg (fun e => hgg e.symm), if_neg (fun e => hgg e.2), h0]
      rfl
  · rw [if_neg (fun e => hkk e.symm), if_neg (fun e => hkk e.1)]
theorem cellM_shp {ins : List Ins} {slot : List Int} {n ns k g : Nat} {live : List (List Lv)} (h : Shp n ns live) : Shp n ns (cellM ins slot k g live) := by
  unfold cellM
  split
  · exact setLv_shp h
  · exact h
theorem rowM_shp {ins : List Ins} {slot : List Int} {n ns k : Nat} {live : List (List Lv)} (h : Shp n ns live) : ∀ g, Shp n ns (rowM ins slot k g live)
  | 0 => h
  | g + 1 => cellM_shp (rowM_shp h g)
theorem sweepM_shp {ins : List Ins} {slot : List Int} {n ns : Nat} : ∀ (k : Nat) {live : List (List Lv)}, Shp n ns live → Shp n ns (sweepM ins slot ns k live)
  | 0, _, h => h
  | k + 1, _, h => sweepM_shp k (rowM_shp h ns)

theorem fold_mono {a b : List (List Lv)} {g : Nat} (h : ∀ k, (lv a k g).le (lv b k g)) : ∀ (ts : List Nat) (x y : Lv), x.le y →
    (ts.foldl (fun l t => (⟨l.began || (lv a t g).began, l.part || (lv a t g).part⟩ : Lv)) x).le (ts.foldl (fun l t => (⟨l.began || (lv b t g).began, l.part || (lv b t g).part⟩ : Lv)) y)
  | [], x, y, hxy => hxy
  | t :: ts, x, y, hxy => by
    rw [List.foldl_cons, List.foldl_cons]
    refine fold_mono h ts _ _ ⟨fun hx => ?_, fun hx => ?_⟩
    · simp only [Bool.or_eq_true] at hx ⊢
      rcases hx with hx | hx
      · exact .inl (hxy.1 hx)
      · exact .inr ((h t).1 hx)
    · simp only [Bool.or_eq_true] at hx ⊢
      rcases hx with hx | hx
      · exact .inl (hxy.2 hx)
      · exact .inr ((h t).2 hx)
theorem markOne_mono {slot : List Int} {a b : List (List Lv)} {i : Ins} {k g : Nat} (h : ∀ k, (lv a k g).le (lv b k g)) : (markOne slot a i k g).le (markOne slot b i k g) := by
  have hf := fold_mono h (leadsS i k) ⟨false, false⟩ ⟨false, false⟩ (Lv.le.refl _)
  unfold markOne
  simp only
  generalize (leadsS i k).foldl (fun l t => (⟨l.began || (lv a t g).began, l.part || (lv a t g).part⟩ : Lv)) ⟨false, false⟩ = x at *
  generalize (leadsS i k).foldl (fun l t => (⟨l.began || (lv b t g).began, l.part || (lv b t g).part⟩ : Lv)) ⟨false, false⟩ = y at *
  split
  · split
    · exact ⟨fun h => (by cases h), hf.2⟩
    · split
      · exact Lv.le.refl _
      · exact ⟨hf.1, fun _ => rfl⟩
  · exact hf
/-- Nothing would become less. -/
def Post (ins : List Ins) (slot : List Int) (ns : Nat) (live : List (List Lv)) : Prop := ∀ (k : Nat) (i : Ins), ins[k]? = some i → ∀ g, g < ns → (lv live k g).le (markOne slot live i k g)
theorem setLv_le {n ns k g : Nat} {l : Lv} {live : List (List Lv)} (h : Shp n ns live) (hk : k < n) (hg : g < ns) (hl : (lv live k g).le l) : ∀ k' g', (lv live k' g').le (lv (setLv live k g l) k' g') := by
  intro k' g'
  rw [lv_setLv h hk hg]
  split
  · rename_i e; rw [e.1, e.2]; exact hl
  · exact Lv.le.refl _
theorem cellM_post {ins : List Ins} {slot : List Int} {ns k g : Nat} {live : List (List Lv)} (h : Shp ins.length ns live) (hP : Post ins slot ns live) (hg : g < ns) : Post ins slot ns (cellM ins slot k g live) := by
  unfold cellM
  cases hi : ins[k]? with
  | none => exact hP
  | some i =>
    have hk := (List.getElem?_eq_some_iff.1 hi).1
    have hle := setLv_le h hk hg (hP k i hi g hg)
    intro k' i' hi' g' hg'
    rw [lv_setLv h hk hg]
    split
    · rename_i e
      obtain ⟨rfl, rfl⟩ := e
      rw [hi] at hi'; injection hi' with hi'; subst hi'
      exact markOne_mono (fun k => hle k g')
    · exact (hP k' i' hi' g' hg').trans (markOne_mono (fun k => hle k g'))
theorem rowM_post {ins : List Ins} {slot : List Int} {ns k : Nat} {live : List (List Lv)} (h : Shp ins.length ns live) (hP : Post ins slot ns live) : ∀ g, g ≤ ns → Post ins slot ns (rowM ins slot k g live)
  | 0, _ => hP
  | g + 1, hg => cellM_post (rowM_shp h g) (rowM_post h hP g (by omega)) (by omega)
/-- How many bits are set. -/
def cntL (l : Lv) : Nat := (if l.began then 1 else 0) + if l.part then 1 else 0
def trues (live : List (List Lv)) : Nat := (live.map fun r => (r.map cntL).sum).sum
theorem sum_set : ∀ (l : List Nat) (k x : Nat) (h : k < l.length), (l.set k x).sum + l[k] = l.sum + x
  | a :: l, 0, x, h => by simp; omega
  | a :: l, k + 1, x, h => by
    have ih := sum_set l k x (by simpa using h)
    simp only [List.set_cons_succ, List.sum_cons, List.getElem_cons_succ]
    omega
theorem trues_set {n ns k g : Nat} {l : Lv} {live : List (List Lv)} (h : Shp n ns live) (hk : k < n) (hg : g < ns) : trues (setLv live k g l) + cntL (lv live k g) = trues live + cntL l := by
  have hkl : k < live.length := by rw [h.n]; exact hk
  obtain ⟨r0, h0⟩ : ∃ r0, live[k]? = some r0 := ⟨_, List.getElem?_eq_getElem hkl⟩
  have hr0 := h.r k r0 h0
  have hlk : live[k] = r0 := by rw [List.getElem?_eq_getElem hkl] at h0; injection h0
  have h1 := sum_set (live.map fun r => (r.map cntL).sum) k (((r0.set g l).map cntL).sum) (by simpa using hkl)
  have h2 := sum_set (r0.map cntL) g (cntL l) (by simpa [hr0] using hg)
  rw [List.getElem_map] at h1 h2
  rw [hlk] at h1
  have e1 : setLv live k g l = live.set k (r0.set g l) := by unfold setLv; rw [List.getD_eq_getElem?_getD, h0]; rfl
  have e2 : lv live k g = r0[g]'(by omega) := by unfold lv; simp only [List.getD_eq_getElem?_getD, h0, Option.getD_some]; rw [List.getElem?_eq_getElem (by omega)]; rfl
  rw [e1, e2]
  unfold trues
  simp only [List.map_set] at h1 ⊢
  omega
theorem cnt_le (l : Lv) : cntL l ≤ 2 := by unfold cntL; split <;> split <;> omega
theorem sum_le_mul {l : List Nat} {B : Nat} (h : ∀ x ∈ l, x ≤ B) : l.sum ≤ l.length * B := by
  induction l with
  | nil => simp
  | cons a l ih =>
    have h1 := h a (List.mem_cons_self ..)
    have h2 := ih (fun x hx => h x (List.mem_cons_of_mem _ hx))
    rw [List.sum_cons, List.length_cons, Nat.succ_mul]
    omega
theorem trues_le {n ns : Nat} {live : List (List Lv)} (h : Shp n ns live) : trues live ≤ n * (ns * 2) := by
  unfold trues
  have := sum_le_mul (l := live.map fun r => (r.map cntL).sum) (B := ns * 2) (by
    intro x hx
    obtain ⟨r, hr, rfl⟩ := List.mem_map.1 hx
    obtain ⟨k, hk, rfl⟩ := List.getElem_of_mem hr
    have h1 := h.r k _ (List.getElem?_eq_getElem hk)
    have := sum_le_mul (l := live[k].map cntL) (B := 2) (by intro x hx; obtain ⟨l, _, rfl⟩ := List.mem_map.1 hx; exact cnt_le l)
    rw [List.length_map, h1] at this
    exact this)
  rw [List.length_map, h.n] at this
  exact this
theorem cnt_lt {a b : Lv} (h : a.le b) (hne : a ≠ b) : cntL a < cntL b := by
  obtain ⟨a1, a2⟩ := a
  obtain ⟨b1, b2⟩ := b
  obtain ⟨h1, h2⟩ := h
  cases a1 <;> cases a2 <;> cases b1 <;> cases b2 <;> simp_all [cntL]
theorem setLv_same {n ns k g : Nat} {live : List (List Lv)} (h : Shp n ns live) (hk : k < n) (hg : g < ns) : setLv live k g (lv live k g) = live := by
  have hkl : k < live.length := by rw [h.n]; exact hk
  obtain ⟨r0, h0⟩ : ∃ r0, live[k]? = some r0 := ⟨_, List.getElem?_eq_getElem hkl⟩
  have hr0 := h.r k r0 h0
  have hlk : live[k] = r0 := by rw [List.getElem?_eq_getElem hkl] at h0; injection h0
  unfold setLv lv
  simp only [List.getD_eq_getElem?_getD, h0, Option.getD_some]
  rw [List.getElem?_eq_getElem (by omega : g < r0.length), Option.getD_some, List.set_getElem_self, ← hlk, List.set_getElem_self]
/-- One place: what it does to the flag. -/
theorem cellM_step {ins : List Ins} {slot : List Int} {ns k g : Nat} {i : Ins} {live : List (List Lv)} (h : Shp ins.length ns live) (hP : Post ins slot ns live) (hi : ins[k]? = some i) (hg : g < ns) :
    (markOne slot live i k g = lv live k g → cellM ins slot k g live = live) ∧ (markOne slot live i k g ≠ lv live k g → trues live < trues (cellM ins slot k g live)) := by
  have hk := (List.getElem?_eq_some_iff.1 hi).1
  unfold cellM
  rw [hi]
  simp only
  refine ⟨fun e => by rw [e]; exact setLv_same h hk hg, fun e => ?_⟩
  have h1 := trues_set (l := markOne slot live i k g) h hk hg
  have h2 := cnt_lt (hP k i hi g hg) (fun e2 => e e2.symm)
  omega
theorem live0_shp (n ns : Nat) : Shp n ns (live0 n ns) := ⟨by simp [live0], fun k r h => by
  unfold live0 at h
  have := List.mem_of_getElem? h
  rw [List.eq_of_mem_replicate this]; simp⟩
theorem lv_live0 (n ns k g : Nat) : lv (live0 n ns) k g = ⟨false, false⟩ := by
  unfold lv live0
  simp only [List.getD_eq_getElem?_getD, List.getElem?_replicate]
  split
  · rw [Option.getD_some, List.getElem?_replicate]; split <;> rfl
  · simp
theorem live0_post (ins : List Ins) (slot : List Int) (n ns : Nat) : Post ins slot ns (live0 n ns) := fun k i _ g _ => by
  rw [lv_live0]; exact ⟨fun h => (by cases h), fun h => (by cases h)⟩
/-- Wherever it comes to a stop, it is there. -/
theorem iter_stop {α : Type} (f : α → α) (x : α) {t u : Nat} (ht : f (iterM f t x) = iterM f t x) (hu : f (iterM f u x) = iterM f u x) : iterM f t x = iterM f u x := by
  have key : ∀ a d, f (iterM f a x) = iterM f a x → iterM f (a + d) x = iterM f a x := by
    intro a d ha
    induction d with
    | zero => rfl
    | succ d ih => show f (iterM f (a + d) x) = _; rw [ih, ha]
  rcases Nat.le_total t u with h | h
  · obtain ⟨d, rfl⟩ := Nat.exists_eq_add_of_le h
    exact (key t d ht).symm
  · obtain ⟨d, rfl⟩ := Nat.exists_eq_add_of_le h
    exact key u d hu
end Go.Proofs.Ytoadmpochaeohaa
end

section
set_option linter.unusedVariables false
set_option linter.unusedSimpArgs false
set_option maxRecDepth 100000
namespace Go.Proofs.Ytoadmpochaeohaa
open Go.RowKit

/-- Where an instruction leads. -/
def leadsI (i : Ins) (k : Nat) : List Int := if i.op = 2 ∨ i.op = 10 then [i.x, i.y] else if i.op = 3 then [i.x] else if i.op = 11 then [] else [(k : Int) + 1]

set_option maxHeartbeats 1600000 in
theorem leadsC (i : Ins) (k : Nat) (w : World) (hk : k ≤ 1048576) : Calls Try.prog 45 #[i.val, .int .i64 k] w fun e w' => ∃ v, e = .returned v ∧ Sl w' (fun b => w.heap.size ≤ b) 3 1 v (leadsI i k).length ((leadsI i k).map I64) ∧ Frm (fun _ => False) w w' := by
  obtain ⟨iop, ix, iy, i_n, imn, imx, is0, is1, is2, is3⟩ := i
  obtain ⟨L, hL⟩ : ∃ L, leadsI ⟨iop, ix, iy, i_n, imn, imx, is0, is1, is2, is3⟩ k = L := ⟨_, rfl⟩
  rw [hL]
  simp only [Ins.val]
  have hT := Blk.new w [.int .i64 iop, .int .i64 ix, .int .i64 iy, .int .i64 i_n, .int .i64 imn, .int .i64 imx, .int .u64 is0, .int .u64 is1, .int .u64 is2, .int .u64 is3] 39
  have hf0 : Frm (fun _ => False) w (w.alloc (.cells #[.int .i64 iop, .int .i64 ix, .int .i64 iy, .int .i64 i_n, .int .i64 imn, .int .i64 imx, .int .u64 is0, .int .u64 is1, .int .u64 is2, .int .u64 is3] 39)) := (Frm.refl _ w).alloc _
  have HL := Lib.hid hL
  clear hL
  go_enter Try.func45, Try.ntmps45
  go_upto_region 1 with fail
  have hz := hf0.size
  generalize w.alloc (.cells #[.int .i64 iop, .int .i64 ix, .int .i64 iy, .int .i64 i_n, .int .i64 imn, .int .i64 imx, .int .u64 is0, .int .u64 is1, .int .u64 is2, .int .u64 is3] 39) = w1 at *
  have HZ := Lib.hid hz
  clear hz
  obtain ⟨bT, hbT⟩ : ∃ bT, w.heap.size = bT := ⟨_, rfl⟩
  simp only [hbT] at hT ⊢
  clear hbT
  have t0 := hT.cell 0
  have t1 := hT.cell 1
  have t2 := hT.cell 2
  simp only [List.getElem?_cons_zero, List.getElem?_cons_succ] at t0 t1 t2
  have lt := hT.lt
  have two : ∀ a c : Int, Sl (w1.alloc (.cells #[.int .i64 a, .int .i64 c] 3)) (fun b => w.heap.size ≤ b) 3 1 (.slice (some ⟨w1.heap.size, 0, none⟩) 2 2) 2 [I64 a, I64 c] := fun a c => .at_ (rest := []) HZ.out (Blk.new w1 [_, _] 3) rfl rfl (Nat.le_refl _) (by simp only [maxLen]; omega)
  have one : ∀ a : Int, Sl (w1.alloc (.cells #[.int .i64 a] 3)) (fun b => w.heap.size ≤ b) 3 1 (.slice (some ⟨w1.heap.size, 0, none⟩) 1 1) 1 [I64 a] := fun a => .at_ (rest := []) HZ.out (Blk.new w1 [_] 3) rfl rfl (Nat.le_refl _) (by simp only [maxLen]; omega)
  have TWO := Lib.hid two
  have ONE := Lib.hid one
  clear two one
  by_cases h2 : iop = 2
  · subst h2
    obtain rfl : L = [ix, iy] := by rw [← HL.out]; rfl
    go_wp2_with fail
    go_ret
    exact ⟨_, rfl, TWO.out _ _, hf0.alloc _⟩
  by_cases h10 : iop = 10
  · subst h10
    obtain rfl : L = [ix, iy] := by rw [← HL.out]; rfl
    go_wp2_with fail
    go_ret
    exact ⟨_, rfl, TWO.out _ _, hf0.alloc _⟩
  by_cases h3 : iop = 3
  · subst h3
    obtain rfl : L = [ix] := by rw [← HL.out]; rfl
    go_wp2_with fail
    go_ret
    exact ⟨_, rfl, ONE.out _, hf0.alloc _⟩
  by_cases h11 : iop = 11
  · subst h11
    obtain rfl : L = [] := by rw [← HL.out]; rfl
    go_wp2_with fail
    go_ret
    exact ⟨_, rfl, Sl.nil, hf0⟩
  have u2 : (iop == 2) = false := by simpa using h2
  have u3 : (iop == 3) = false := by simpa using h3
  have u10 : (iop == 10) = false := by simpa using h10
  have u11 : (iop == 11) = false := by simpa using h11
  obtain rfl : L = [(k : Int) + 1] := by rw [← HL.out, leadsI, if_neg (by simp only; omega), if_neg h3, if_neg h11]
  go_wp2_with fail
  go_ret
  exact ⟨_, rfl, ONE.out _, hf0.alloc _⟩

theorem stepsC (b : Nat) (cs : List Value) (st : Int) (w : World) (hB : Blk w b cs 78) (h : cs[11]? = some (.int .i64 st)) : Calls Try.prog 14 #[.pointer (some ⟨b, 0, none⟩)] w fun e w' => e = .returned (.int .i64 st) ∧ w = w' := by
  have c := hB.cell 11
  rw [h] at c
  have l := hB.lt
  go_enter Try.func14, Try.ntmps14
  go_wp2
  go_ret
  exact ⟨rfl, rfl⟩
theorem keptC (b : Nat) (cs : List Value) (kp : Int) (w : World) (hB : Blk w b cs 78) (h : cs[12]? = some (.int .i64 kp)) : Calls Try.prog 15 #[.pointer (some ⟨b, 0, none⟩)] w fun e w' => e = .returned (.int .i64 kp) ∧ w = w' := by
  have c := hB.cell 12
  rw [h] at c
  have l := hB.lt
  go_enter Try.func15, Try.ntmps15
  go_wp2
  go_ret
  exact ⟨rfl, rfl⟩
end Go.Proofs.Ytoadmpochaeohaa
end
