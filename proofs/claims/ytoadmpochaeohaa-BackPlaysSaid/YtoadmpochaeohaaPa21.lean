/-
  Reference 14: configurations; a configuration as a text.
-/
import Derived.Test.YtoadmpochaeohaaPa20
import Derived.Test.YtoadmpochaeohaaPa6
section
set_option linter.unusedVariables false
set_option linter.unusedSimpArgs false
set_option maxRecDepth 100000
namespace Go.Proofs.Ytoadmpochaeohaa
open Go.RowKit

/-- A configuration of reference 14. -/
structure RC where
  pc : Nat
  at_ : Nat
  began : List Int
  frm : List Int
  til : List Int
  turns : List Int
  last : List Int
deriving DecidableEq
def RC.nums (c : RC) : List Int := [(c.pc : Int), (c.at_ : Int)] ++ c.began ++ c.frm ++ c.til ++ c.turns ++ c.last
def t3 (n : Int) : List UInt8 := [UInt8.ofNat ((n + 1) % 256).toNat, UInt8.ofNat ((n + 1) / 256 % 256).toNat, UInt8.ofNat ((n + 1) / 65536 % 256).toNat]
def textR (c : RC) : List UInt8 := c.nums.flatMap t3
/-- Where its lists lie. -/
structure CA where
  a1 : Option Addr
  a2 : Option Addr
  a3 : Option Addr
  a4 : Option Addr
  a5 : Option Addr
  c1 : Nat
  c2 : Nat
  c3 : Nat
  c4 : Nat
  c5 : Nat
def CA.cells (s : CA) (gr co : Nat) (pc at_ : Int) : List Value := [.int .i64 pc, .int .i64 at_, .slice s.a1 gr s.c1, .slice s.a2 gr s.c2, .slice s.a3 gr s.c3, .slice s.a4 co s.c4, .slice s.a5 co s.c5]
structure CRd (w : World) (D : Nat → Prop) (s : CA) (gr co : Nat) (c : RC) : Prop where
  r1 : Rd w D 1 s.a1 gr s.c1 (c.began.map I64)
  r2 : Rd w D 1 s.a2 gr s.c2 (c.frm.map I64)
  r3 : Rd w D 1 s.a3 gr s.c3 (c.til.map I64)
  r4 : Rd w D 1 s.a4 co s.c4 (c.turns.map I64)
  r5 : Rd w D 1 s.a5 co s.c5 (c.last.map I64)
theorem CRd.frm {S : Nat → Prop} {w w' : World} {D : Nat → Prop} {s : CA} {gr co : Nat} {c : RC} (h : CRd w D s gr co c) (f : Frm S w w') (hd : ∀ k, D k → ¬ S k) : CRd w' D s gr co c :=
  ⟨h.r1.frm f hd, h.r2.frm f hd, h.r3.frm f hd, h.r4.frm f hd, h.r5.frm f hd⟩
theorem CRd.mono {w : World} {D E : Nat → Prop} {s : CA} {gr co : Nat} {c : RC} (h : CRd w D s gr co c) (hE : ∀ k, D k → k < w.heap.size → E k) : CRd w E s gr co c :=
  ⟨h.r1.mono hE, h.r2.mono hE, h.r3.mono hE, h.r4.mono hE, h.r5.mono hE⟩
theorem CRd.low {w : World} {D : Nat → Prop} {s : CA} {gr co : Nat} {c : RC} (h : CRd w D s gr co c) : CRd w (fun k => D k ∧ k < w.heap.size) s gr co c := h.mono fun _ h l => ⟨h, l⟩
/-- What its numbers may be. -/
def RC.small (c : RC) : Prop := ∀ z ∈ c.nums, -1 ≤ z ∧ z ≤ 16000000
theorem CRd.len {w : World} {D : Nat → Prop} {s : CA} {gr co : Nat} {c : RC} (h : CRd w D s gr co c) : c.began.length = gr ∧ c.frm.length = gr ∧ c.til.length = gr ∧ c.turns.length = co ∧ c.last.length = co := by
  refine ⟨?_, ?_, ?_, ?_, ?_⟩
  · have := h.r1.len; simpa using this
  · have := h.r2.len; simpa using this
  · have := h.r3.len; simpa using this
  · have := h.r4.len; simpa using this
  · have := h.r5.len; simpa using this
theorem t3_U8 (X : Nat) : (t3 ((X : Int) - 1)).map U8 = [.int .u8 ((X : Int) % 256), .int .u8 (((X / 256 : Nat) : Int) % 256), .int .u8 (((X / 65536 : Nat) : Int) % 256)] := by
  have h : ∀ z : Int, U8 (UInt8.ofNat (z % 256).toNat) = .int .u8 (z % 256) := fun z => by
    have h0 : 0 ≤ z % 256 := Int.emod_nonneg _ (by omega)
    have h1 : z % 256 < 256 := Int.emod_lt_of_pos _ (by omega)
    unfold U8
    congr 1
    rw [UInt8.toNat_ofNat', Nat.mod_eq_of_lt (by omega)]
    omega
  simp only [t3, List.map_cons, List.map_nil, h]
  rw [show (X : Int) - 1 + 1 = X by omega]
  rfl
/-- Between two numbers of a text. -/
def TXI (w0 : World) (ns : List Int) (v i : Value) (wr : World) : Prop := ∃ k : Nat, i = .int .i64 k ∧ k ≤ ns.length ∧ Frm (fun _ => False) w0 wr ∧ Sl wr (fun q => w0.heap.size ≤ q) 5 1 v (3 * k) (((ns.take k).flatMap t3).map U8)
theorem t3_len (l : List Int) : (l.flatMap t3).length = 3 * l.length := by
  induction l with
  | nil => rfl
  | cons x l ih => rw [List.flatMap_cons, List.length_append, ih]; simp [t3]; omega
set_option maxHeartbeats 4000000 in
theorem textC (s : CA) (gr co : Nat) (c : RC) (D : Nat → Prop) (w : World) (hC : CRd w D s gr co c) (hs : c.small) (hgr : gr ≤ 30) (hco : co ≤ 40) :
    Calls Try.prog 49 #[.agg (s.cells gr co c.pc c.at_).toArray] w fun e w' => e = .returned (.string ⟨(textR c).toArray⟩) ∧ Frm (fun _ => False) w w' := by
  obtain ⟨a1, a2, a3, a4, a5, c1, c2, c3, c4, c5⟩ := s
  obtain ⟨pc, at_, began, frm, til, turns, last⟩ := c
  obtain ⟨l1, l2, l3, l4, l5⟩ := hC.len
  simp only [CA.cells] at *
  have hX := Blk.new w [.int .i64 pc, .int .i64 at_, .slice a1 gr c1, .slice a2 gr c2, .slice a3 gr c3, .slice a4 co c4, .slice a5 co c5] 114
  have hf0 : Frm (fun _ => False) w (w.alloc (.cells #[.int .i64 pc, .int .i64 at_, .slice a1 gr c1, .slice a2 gr c2, .slice a3 gr c3, .slice a4 co c4, .slice a5 co c5] 114)) := (Frm.refl _ w).alloc _
  have hC1 := hC.low.frm hf0 (fun _ _ h => h)
  have hns : (RC.nums ⟨pc, at_, began, frm, til, turns, last⟩).length = 2 + 3 * gr + 2 * co := by simp [RC.nums, l1, l2, l3, l4, l5]; omega
  have hnn : RC.nums ⟨pc, at_, began, frm, til, turns, last⟩ = [(pc : Int), (at_ : Int)] ++ began ++ frm ++ til ++ turns ++ last := rfl
  have htx : textR ⟨pc, at_, began, frm, til, turns, last⟩ = (RC.nums ⟨pc, at_, began, frm, til, turns, last⟩).flatMap t3 := rfl
  unfold RC.small at hs
  rw [htx]
  obtain ⟨ns, hnse⟩ : ∃ ns, RC.nums ⟨pc, at_, began, frm, til, turns, last⟩ = ns := ⟨_, rfl⟩
  rw [hnse] at hns hnn hs ⊢
  obtain ⟨N, hN⟩ : ∃ N, 2 + 3 * gr + 2 * co = N := ⟨_, rfl⟩
  rw [hN] at hns
  have HNN := Lib.hid (⟨hnn, hN, l1, l2, l3, l4, l5⟩ : _ ∧ _ ∧ _ ∧ _ ∧ _ ∧ _ ∧ _)
  have hNb : N ≤ 200 := by omega
  have HNS := Lib.hid (⟨hns, hs⟩ : _ ∧ _)
  clear hC hnse hnn htx hN l1 l2 l3 l4 l5 hs hns
  have x0 := hX.cell 0
  have x1 := hX.cell 1
  have x2 := hX.cell 2
  have x3 := hX.cell 3
  have x4 := hX.cell 4
  have x5 := hX.cell 5
  have x6 := hX.cell 6
  simp only [List.getElem?_cons_zero, List.getElem?_cons_succ] at x0 x1 x2 x3 x4 x5 x6
  have lx := hX.lt
  go_enter Try.func49, Try.ntmps49
  go_upto_region 1 with fail
  generalize w.alloc (.cells #[.int .i64 pc, .int .i64 at_, .slice a1 gr c1, .slice a2 gr c2, .slice a3 gr c3, .slice a4 co c4, .slice a5 co c5] 114) = w1 at *
  obtain ⟨bX, hbX⟩ : ∃ bX, w.heap.size = bX := ⟨_, rfl⟩
  simp only [hbX] at hX x0 x1 x2 x3 x4 x5 x6 lx hC1 ⊢
  have HBX := Lib.hid hbX
  clear hbX
  have hS0 : Sl (w1.alloc (.cells #[.int .i64 pc, .int .i64 at_] 3)) (fun q => w1.heap.size ≤ q) 3 1 (.slice (some ⟨w1.heap.size, 0, none⟩) 2 2) 2 (([(pc : Int), (at_ : Int)]).map I64) := .at_ (rest := []) (Nat.le_refl _) (Blk.new w1 [_, _] 3) rfl rfl (Nat.le_refl _) (by simp only [maxLen]; omega)
  have hfa : Frm (fun _ => False) w1 (w1.alloc (.cells #[.int .i64 pc, .int .i64 at_] 3)) := (Frm.refl _ w1).alloc _
  have hX0 := hX.frm hfa (fun h => h)
  have hC0 := hC1.frm hfa (fun _ _ h => h)
  go_upto_region 3 with fail
  generalize w1.alloc (.cells #[.int .i64 pc, .int .i64 at_] 3) = v0 at *
  have hsz0 := hfa.size
  have hlX := hX.lt
  clear x0 x1 x2 x3 x4 x5 x6 lx hX hC1
  have x2 := hX0.cell 2
  simp only [List.getElem?_cons_zero, List.getElem?_cons_succ] at x2
  have lx := hX0.lt
  obtain ⟨A0, d0, hA0⟩ := hS0.form
  go_wp2_with (with_reducible refine stop_at 15 rfl ?_)
  unfold Stop
  refine op_appendRd rfl _ _ _ rfl 3 _ 1 8 Try.underlying73 infoI rfl (by omega) hS0.low rfl hC0.r1 rfl (oneI began) (by simp only [maxLen]; omega) (by omega) ?_
  intro z1 v1 hf1 hs1
  have hsz1 := hf1.size
  have hS1 : Sl v1 (fun q => w1.heap.size ≤ q) 3 1 z1 (2 + gr) (([(pc : Int), (at_ : Int)] ++ began).map I64) := by
    rw [List.map_append]
    exact hs1.mono (by rintro q (h | h) _; exact h.1; show w1.heap.size ≤ q; omega)
  have hX1 := hX0.frm hf1 (fun h => by have := h.1; have := hX0.lt; omega)
  have hC1 := hC0.frm hf1 (fun q hq h => by have := hq.2; have := h.1; omega)
  have hg1 : Frm (fun _ => False) w1 v1 := hfa.then hf1 (fun q h hl => by have := h.1; omega)
  clear x2 lx hs1 hf1 hX0 hC0 hS0 hfa
  have x3 := hX1.cell 3
  simp only [List.getElem?_cons_zero, List.getElem?_cons_succ] at x3
  have lx := hX1.lt
  obtain ⟨A1, d1, hA1⟩ := hS1.form
  subst hA1
  go_wp2_with (with_reducible refine stop_at 19 rfl ?_)
  unfold Stop
  refine op_appendRd rfl _ _ _ rfl 3 _ 1 8 Try.underlying73 infoI rfl (by omega) hS1.low rfl hC1.r2 rfl (oneI frm) (by simp only [maxLen]; omega) (by omega) ?_
  intro z2 v2 hf2 hs2
  have hsz2 := hf2.size
  have hS2 : Sl v2 (fun q => w1.heap.size ≤ q) 3 1 z2 (2 + gr + gr) (([(pc : Int), (at_ : Int)] ++ began ++ frm).map I64) := by
    rw [List.map_append]
    exact hs2.mono (by rintro q (h | h) _; exact h.1; show w1.heap.size ≤ q; omega)
  have hX2 := hX1.frm hf2 (fun h => by have := h.1; have := hX1.lt; omega)
  have hC2 := hC1.frm hf2 (fun q hq h => by have := hq.2; have := h.1; omega)
  have hg2 : Frm (fun _ => False) w1 v2 := hg1.then hf2 (fun q h hl => by have := h.1; omega)
  clear x3 lx hs2 hf2 hX1 hC1 hS1 hg1
  have x4 := hX2.cell 4
  simp only [List.getElem?_cons_zero, List.getElem?_cons_succ] at x4
  have lx := hX2.lt
  obtain ⟨A2, d2, hA2⟩ := hS2.form
  subst hA2
  go_wp2_with (with_reducible refine stop_at 23 rfl ?_)
  unfold Stop
  refine op_appendRd rfl _ _ _ rfl 3 _ 1 8 Try.underlying73 infoI rfl (by omega) hS2.low rfl hC2.r3 rfl (oneI til) (by simp only [maxLen]; omega) (by omega) ?_
  intro z3 v3 hf3 hs3
  have hsz3 := hf3.size
  have hS3 : Sl v3 (fun q => w1.heap.size ≤ q) 3 1 z3 (2 + gr + gr + gr) (([(pc : Int), (at_ : Int)] ++ began ++ frm ++ til).map I64) := by
    rw [List.map_append]
    exact hs3.mono (by rintro q (h | h) _; exact h.1; show w1.heap.size ≤ q; omega)
  have hX3 := hX2.frm hf3 (fun h => by have := h.1; have := hX2.lt; omega)
  have hC3 := hC2.frm hf3 (fun q hq h => by have := hq.2; have := h.1; omega)
  have hg3 : Frm (fun _ => False) w1 v3 := hg2.then hf3 (fun q h hl => by have := h.1; omega)
  clear x4 lx hs3 hf3 hX2 hC2 hS2 hg2
  have x5 := hX3.cell 5
  simp only [List.getElem?_cons_zero, List.getElem?_cons_succ] at x5
  have lx := hX3.lt
  obtain ⟨A3, d3, hA3⟩ := hS3.form
  subst hA3
  go_wp2_with (with_reducible refine stop_at 27 rfl ?_)
  unfold Stop
  refine op_appendRd rfl _ _ _ rfl 3 _ 1 8 Try.underlying73 infoI rfl (by omega) hS3.low rfl hC3.r4 rfl (oneI turns) (by simp only [maxLen]; omega) (by omega) ?_
  intro z4 v4 hf4 hs4
  have hsz4 := hf4.size
  have hS4 : Sl v4 (fun q => w1.heap.size ≤ q) 3 1 z4 (2 + gr + gr + gr + co) (([(pc : Int), (at_ : Int)] ++ began ++ frm ++ til ++ turns).map I64) := by
    rw [List.map_append]
    exact hs4.mono (by rintro q (h | h) _; exact h.1; show w1.heap.size ≤ q; omega)
  have hX4 := hX3.frm hf4 (fun h => by have := h.1; have := hX3.lt; omega)
  have hC4 := hC3.frm hf4 (fun q hq h => by have := hq.2; have := h.1; omega)
  have hg4 : Frm (fun _ => False) w1 v4 := hg3.then hf4 (fun q h hl => by have := h.1; omega)
  clear x5 lx hs4 hf4 hX3 hC3 hS3 hg3
  have x6 := hX4.cell 6
  simp only [List.getElem?_cons_zero, List.getElem?_cons_succ] at x6
  have lx := hX4.lt
  obtain ⟨A4, d4, hA4⟩ := hS4.form
  subst hA4
  go_wp2_with (with_reducible refine stop_at 31 rfl ?_)
  unfold Stop
  refine op_appendRd rfl _ _ _ rfl 3 _ 1 8 Try.underlying73 infoI rfl (by omega) hS4.low rfl hC4.r5 rfl (oneI last) (by simp only [maxLen]; omega) (by omega) ?_
  intro z5 v5 hf5 hs5
  have hsz5 := hf5.size
  have hS5 : Sl v5 (fun q => w1.heap.size ≤ q) 3 1 z5 (2 + gr + gr + gr + co + co) (([(pc : Int), (at_ : Int)] ++ began ++ frm ++ til ++ turns ++ last).map I64) := by
    rw [List.map_append]
    exact hs5.mono (by rintro q (h | h) _; exact h.1; show w1.heap.size ≤ q; omega)
  have hX5 := hX4.frm hf5 (fun h => by have := h.1; have := hX4.lt; omega)
  have hC5 := hC4.frm hf5 (fun q hq h => by have := hq.2; have := h.1; omega)
  have hg5 : Frm (fun _ => False) w1 v5 := hg4.then hf5 (fun q h hl => by have := h.1; omega)
  clear x6 lx hs5 hf5 hX4 hC4 hS4 hg4
  obtain ⟨A5, d5, rfl⟩ := hS5.form
  have hn5 : 2 + gr + gr + gr + co + co = N := by have := HNN.out.2.1; omega
  rw [← HNN.out.1, hn5] at hS5
  rw [hn5]
  have hR := hS5.rd
  clear hS5 hX5 hC5 hn5 hsz0 hsz1 hsz2 hsz3 hsz4
  have h0 : TXI v5 ns (.slice none 0 0) (.int .i64 0) v5 := ⟨0, rfl, Nat.zero_le _, Frm.refl _ _, Sl.nil⟩
  have H0 := Lib.hid h0
  clear h0
  go_wp2_with fail
  go_loopw [3, 5] (fun v i wr => TXI v5 ns v i wr) (fun _ i _ => N - (intOf i).toNat)
  case atStart => exact H0.out
  case round =>
    clear H0
    obtain ⟨k, rfl, hk, hfr, hS⟩ := hrel
    rw [HNS.out.1] at hk
    obtain ⟨A, d, rfl⟩ := hS.form
    by_cases hkn : k < N
    · obtain ⟨z, hz⟩ : ∃ z, ns[k]? = some z := ⟨_, List.getElem?_eq_getElem (by rw [HNS.out.1]; exact hkn)⟩
      have hzb := HNS.out.2 z (List.mem_of_getElem? hz)
      obtain ⟨X, hX⟩ : ∃ X : Nat, z = (X : Int) - 1 := ⟨(z + 1).toNat, by omega⟩
      have htk : (ns.take (k + 1)).flatMap t3 = (ns.take k).flatMap t3 ++ t3 ((X : Int) - 1) := by rw [List.take_add_one, hz, Option.toList_some, List.flatMap_append, ← hX]; simp
      obtain ⟨q1, hq1⟩ : ∃ q, X / 256 = q := ⟨_, rfl⟩
      obtain ⟨q2, hq2⟩ : ∃ q, X / 65536 = q := ⟨_, rfl⟩
      have hu8 := t3_U8 X
      rw [hq1, hq2] at hu8
      have HTK := Lib.hid (⟨htk, hu8⟩ : _ ∧ _)
      obtain ⟨bl, ol, z', rfl, hbl, hz', hcl⟩ := (hR.frm hfr (fun _ _ h => h)).cell1 k hkn
      rw [hz] at hz'
      cases hz'
      have hw1 : IntKind.i64.wrap (z + 1) = (X : Int) := by rw [IntWalk.i64_in _ (by omega)]; omega
      have hd1 : (X : Int).tdiv 256 = (q1 : Int) := by rw [Int.tdiv_eq_ediv_of_nonneg (by omega)]; omega
      have hd2 : (X : Int).tdiv 65536 = (q2 : Int) := by rw [Int.tdiv_eq_ediv_of_nonneg (by omega)]; omega
      have hw2 : wrap64 (q1 : Int) = q1 := IntWalk.wrap64_in _ (by omega)
      have hw3 : wrap64 (q2 : Int) = q2 := IntWalk.wrap64_in _ (by omega)
      have hwk : IntKind.i64.wrap ((k : Int) + 1) = ((k + 1 : Nat) : Int) := by rw [IntWalk.i64_in _ (by omega)]; omega
      clear htk hu8 hz hX hq1 hq2
      go_wp2_with (with_reducible refine stop_at 53 rfl ?_)
      unfold Stop
      have hBN := Blk.new wr [.int .u8 ((X : Int) % 256), .int .u8 ((q1 : Int) % 256), .int .u8 ((q2 : Int) % 256)] 5
      refine op_append rfl _ _ _ rfl 5 _ 1 1 Try.underlying158 infoU8 rfl (by omega) (hS.low.alloc (.cells #[.int .u8 ((X : Int) % 256), .int .u8 ((q1 : Int) % 256), .int .u8 ((q2 : Int) % 256)] 5)) rfl ⟨wr.heap.size, 0, none⟩ 3 3 [.int .u8 ((X : Int) % 256), .int .u8 ((q1 : Int) % 256), .int .u8 ((q2 : Int) % 256)] rfl rfl (fun j u hu => (hBN.cellAdd 0 j).trans (by rw [Nat.zero_add]; exact hu)) (by intro u hu; simp at hu; rcases hu with rfl | rfl | rfl <;> rfl) (by simp only [maxLen]; omega) (by omega) ?_
      intro v3 w3 hf3 hs3
      have hz := hfr.size
      have h9 : wr.heap.size ≤ (wr.alloc (.cells #[.int .u8 ((X : Int) % 256), .int .u8 ((q1 : Int) % 256), .int .u8 ((q2 : Int) % 256)] 5)).heap.size := ((Frm.refl (fun _ => False) wr).alloc _).size
      have HRR : Hid (TXI v5 ns v3 (.int .i64 ((k + 1 : Nat) : Int)) w3) := Lib.hid ⟨k + 1, rfl, by rw [HNS.out.1]; omega, (hfr.alloc _).then hf3 (fun q h hl => by have := h.1; omega), by
        rw [HTK.out.1, List.map_append, HTK.out.2]
        exact hs3.mono (by
          rintro q (h | h) _
          · exact h.1
          · show v5.heap.size ≤ q; omega)⟩
      obtain ⟨A9, c9, rfl⟩ := hs3.form
      clear hs3 hf3 hS hfr hBN
      go_wp2_with fail
      go_roundw
      case measure => simp [intOf] <;> omega
      case rel => first | exact HRR.out | (have h := HRR.out; rw [show (((k + 1 : Nat) : Int)) = (k : Int) + 1 by omega] at h; exact h)
    · obtain rfl : k = N := by omega
      rw [List.take_of_length_le (by rw [HNS.out.1]; exact Nat.le_refl _)] at hS
      have hl3 : (ns.flatMap t3).length = 3 * k := by rw [t3_len, HNS.out.1]
      have hpos : 0 < k := by have := HNN.out.2.1; omega
      obtain ⟨acc, hacc⟩ : ∃ acc, ns.flatMap t3 = acc := ⟨_, rfl⟩
      rw [hacc] at hS hl3
      have HACC := Lib.hid hacc
      clear hacc
      have hcv : ∃ bA, A = some ⟨bA, 0, none⟩ ∧ (convert 158 9 (.slice (some ⟨bA, 0, none⟩) (3 * k) d)).run Try.prog wr = .ok (.string ⟨acc.toArray⟩) wr := by
        generalize hxs : acc.map U8 = xs at hS
        rw [← hl3] at hS ⊢
        generalize hnn : acc.length = nn at hS hl3 ⊢
        cases hS with
        | nil => omega
        | @at_ g _ _ _ rest hF hb hx hr hn hm =>
          subst hxs
          exact ⟨g, rfl, run_bytes_str 158 5 9 Try.underlying158 Try.underlying5 Try.underlying9 (rest := rest) hb hnn⟩
      obtain ⟨bA, rfl, hcv⟩ := hcv
      have hff := (hf0.trans hg5).trans hfr
      clear hS hfr
      go_wp2_with fail
      go_ret
      exact ⟨by rw [HACC.out]; rfl, hff⟩
end Go.Proofs.Ytoadmpochaeohaa
end
