/-
  Reference 14: all ways from a configuration, walked.
-/
import Derived.Test.YtoadmpochaeohaaPa28
import Derived.StillTailTactics
section
set_option linter.unusedVariables false
set_option linter.unusedSimpArgs false
set_option maxRecDepth 100000
namespace Go.Proofs.Ytoadmpochaeohaa
open Go.RowKit

theorem PlM.mono {w : World} {D G : Nat → Prop} {bX : Nat} {A : Option Addr} {n cp gr co : Nat} {fo : Bool} {ins : List Ins} {line : ByteArray} {bR : Nat} {sv mv : Value} (h : PlM w D bX A n cp gr co fo ins line bR sv mv) (hG : ∀ k, D k → k < w.heap.size → G k) : PlM w G bX A n cp gr co fo ins line bR sv mv := ⟨h.obj, h.rd.mono hG, h.refs⟩
theorem next_len (ins : List Ins) (fo : Bool) (L : List UInt8) (refs : List Bool) (c : RC) : (nextR ins fo L refs c).length ≤ 2 := by
  unfold nextR
  split
  · simp
  · rename_i i hi
    by_cases h1 : i.op = 1
    · rw [if_pos h1]; split
      · split <;> simp
      · simp
    rw [if_neg h1]
    by_cases h2 : i.op = 2
    · rw [if_pos h2]; simp
    rw [if_neg h2]
    by_cases h3 : i.op = 3
    · rw [if_pos h3]; simp
    rw [if_neg h3]
    by_cases h4 : i.op = 4
    · rw [if_pos h4]; split <;> simp
    rw [if_neg h4]
    by_cases h5 : i.op = 5
    · rw [if_pos h5]; split <;> simp
    rw [if_neg h5]
    by_cases h6 : i.op = 6
    · rw [if_pos h6]; split <;> simp
    rw [if_neg h6]
    by_cases h7 : i.op = 7
    · rw [if_pos h7]; split <;> simp
    rw [if_neg h7]
    by_cases h8 : i.op = 8
    · rw [if_pos h8]; simp only; split
      · simp
      · split <;> simp
    rw [if_neg h8]
    by_cases h9 : i.op = 9
    · rw [if_pos h9]; simp
    rw [if_neg h9]
    by_cases h10 : i.op = 10
    · rw [if_pos h10]; unfold turnR; simp only; split
      · simp
      · rw [List.length_append]; split <;> split <;> simp
    rw [if_neg h10]; simp
theorem flatC_get (gr co : Nat) : ∀ (l : List (CA × RC)) (k : Nat) (p : CA × RC), l[k]? = some p → ∀ j, j < 7 → (flatC gr co l)[k * 7 + j]? = (p.1.cells gr co p.2.pc p.2.at_)[j]?
  | [], k, p, h, j, hj => by simp at h
  | x :: l, 0, p, h, j, hj => by
    simp at h; subst h
    rw [flatC, List.flatMap_cons, Nat.zero_mul, Nat.zero_add, List.getElem?_append_left (by simp [CA.cells]; omega)]
  | x :: l, k + 1, p, h, j, hj => by
    rw [flatC, List.flatMap_cons, List.getElem?_append_right (by simp [CA.cells]; omega), show (k + 1) * 7 + j - (CA.cells x.1 gr co x.2.pc x.2.at_).length = k * 7 + j by simp [CA.cells]; omega]
    exact flatC_get gr co l k p (by simpa using h) j hj
theorem Rd.conf {w : World} {F : Nat → Prop} {A : Option Addr} {n c gr co : Nat} {l : List (CA × RC)} (h : Rd w F 7 A n c (flatC gr co l)) (k : Nat) (p : CA × RC) (hk : l[k]? = some p) (hkn : k < n) : ∃ b off, A = some ⟨b, off, none⟩ ∧ b < w.heap.size ∧
    ∀ j v, (p.1.cells gr co p.2.pc p.2.at_)[j]? = some v → w.cell? ⟨b, off + k * 7 + j, none⟩ = some v := by
  obtain ⟨b, off, hA, hb, hc⟩ := h.elem k hkn
  refine ⟨b, off, hA, hb, fun j v hj => hc j v ?_⟩
  rw [flatC_get gr co l k p hk j (by have := (List.getElem?_eq_some_iff.1 hj).1; simpa [CA.cells] using this)]
  exact hj
theorem kids_stop (nx : RC → List RC) (most f : Nat) (way : List (List UInt8)) : ∀ (l : List RC) (m : Nat), most < m → kidsR nx most f way l m = m
  | [], m, _ => rfl
  | d :: l, m, h => by unfold kidsR; rw [List.foldl_cons, if_neg (by omega)]; exact kids_stop nx most f way l m h
theorem kids_bd {nx : RC → List RC} {most f : Nat} {way : List (List UInt8)} (h : ∀ m c, m ≤ most → m ≤ walkR nx most f m way c ∧ walkR nx most f m way c ≤ most + 1) : ∀ (l : List RC) (m : Nat), m ≤ most + 1 → m ≤ kidsR nx most f way l m ∧ kidsR nx most f way l m ≤ most + 1
  | [], m, hm => ⟨Nat.le_refl _, hm⟩
  | d :: l, m, hm => by
    unfold kidsR
    rw [List.foldl_cons]
    by_cases hle : m ≤ most
    · rw [if_pos hle]
      obtain ⟨a1, a2⟩ := h m d hle
      obtain ⟨b1, b2⟩ := kids_bd h l _ a2
      exact ⟨Nat.le_trans a1 b1, b2⟩
    · rw [if_neg hle]
      exact kids_bd h l m hm
theorem walk_bd (nx : RC → List RC) (most : Nat) : ∀ (f m : Nat) (way : List (List UInt8)) (c : RC), m ≤ most → m ≤ walkR nx most f m way c ∧ walkR nx most f m way c ≤ most + 1
  | 0, m, way, c, h => ⟨Nat.le_refl _, by rw [walkR]; omega⟩
  | f + 1, m, way, c, h => by
    rw [walkR]
    split
    · omega
    · have := kids_bd (nx := nx) (f := f) (way := way ++ [textR c]) (fun m c h => walk_bd nx most f m _ c h) (nx c) (m + 1) (by omega)
      unfold kidsR at this
      omega
def SV (t : List UInt8) : Value := .string ⟨t.toArray⟩
theorem infoS : (Try.prog.info? 9).map (fun i => (i.zero, i.size, i.bytes)) = some (some (.string ⟨#[]⟩), 1, 16) := by kernel_rfl
/-- A walk in memory: b, the way's own blocks F. -/
structure WkM (w : World) (F : Nat → Prop) (b bX : Nat) (many : Nat) (way : List (List UInt8)) (v : Value) : Prop where
  obj : Blk w b [.pointer (some ⟨bX, 0, none⟩), .int .i64 many, v] 121
  way : Sl w F 9 1 v way.length (way.map SV)
set_option maxHeartbeats 16000000 in
theorem onC (b bX : Nat) (A : Option Addr) (n cp gr co : Nat) (fo : Bool) (ins : List Ins) (line : ByteArray) (bR : Nat) (sv mv : Value) (most : Nat) (hr : rightE ins gr co = 0) (hok : ∀ i ∈ ins, i.ok) (hN : line.size ≤ 1000000) (hmost : most ≤ 100000) :
    ∀ (F many : Nat) (way : List (List UInt8)) (v : Value) (s : CA) (c : RC) (Fw D E : Nat → Prop) (w : World), many ≤ most → most + 2 ≤ many + F → WkM w Fw b bX many way v → PlM w E bX A n cp gr co fo ins line bR sv mv → CRd w D s gr co c → RW ins line.size c → (∀ z ∈ c.turns, z ≤ many) → way.length ≤ many →
      (∀ q, Fw q → ¬ D q ∧ ¬ E q ∧ q ≠ bX ∧ q ≠ bR ∧ q ≠ b) → (¬ D b ∧ ¬ E b ∧ b ≠ bX ∧ b ≠ bR) →
      Calls Try.prog 51 #[.pointer (some ⟨b, 0, none⟩), .agg (s.cells gr co c.pc c.at_).toArray, .int .i64 most] w fun e w' => ∃ v', e = .returned (.tuple #[]) ∧ WkM w' (fun q => Fw q ∨ w.heap.size ≤ q) b bX (walkR (nextR ins fo line.toList (refsN ins gr)) most F many way c) way v' ∧ Frm (fun q => q = b ∨ Fw q) w w' := by
  intro F
  induction F with
  | zero => intro many way v s c Fw D E w h1 h2; omega
  | succ F IH =>
    intro many way v s c Fw D E w h1 h2 hW hP hC hRW htn hwl hF hb
    obtain ⟨m1, hm1⟩ : ∃ m1, walkR (nextR ins fo line.toList (refsN ins gr)) most (F + 1) many way c = m1 := ⟨_, rfl⟩
    rw [hm1]
    rw [walkR] at hm1
    obtain ⟨t, ht⟩ : ∃ t, textR c = t := ⟨_, rfl⟩
    obtain ⟨r1, r2, r3, r4, r5⟩ := right_ok hr
    have HTX := Lib.hid (fun D w hC => textC s gr co c D w hC (RW_small hRW r1 hN) (by omega) (by omega))
    rw [ht] at HTX hm1
    obtain ⟨many1, hmm⟩ : ∃ m, many + 1 = m := ⟨_, rfl⟩
    rw [hmm] at hm1
    have hwm : IntKind.i64.wrap ((many : Int) + 1) = (many1 : Int) := by rw [IntWalk.i64_in _ (by omega)]; omega
    have HM1 := Lib.hid (⟨hm1, hmm, ht⟩ : _ ∧ _ ∧ _)
    have HIH := Lib.hid IH
    have HR := Lib.hid (⟨hr, hok⟩ : _ ∧ _)
    have HRW := Lib.hid (⟨hRW, htn⟩ : _ ∧ _)
    have HF := Lib.hid (⟨hF, hb⟩ : _ ∧ _)
    have hmb : many1 ≤ 100001 := by omega
    have hwl1 : way.length < many1 := by omega
    have h2' : most + 2 ≤ many1 + F := by omega
    have hm1b : many1 ≤ most + 1 := by omega
    have hmany : many ≤ 100000 := by omega
    obtain ⟨a1, a2, a3, a4, a5, c1, c2, c3, c4, c5⟩ := s
    obtain ⟨pc, at_, began, frm, til, turns, last⟩ := c
    have hX := Blk.new w [.int .i64 pc, .int .i64 at_, .slice a1 gr c1, .slice a2 gr c2, .slice a3 gr c3, .slice a4 co c4, .slice a5 co c5] 114
    have hf0 : Frm (fun _ => False) w (w.alloc (.cells #[.int .i64 pc, .int .i64 at_, .slice a1 gr c1, .slice a2 gr c2, .slice a3 gr c3, .slice a4 co c4, .slice a5 co c5] 114)) := (Frm.refl _ _).alloc _
    have hlb : b < w.heap.size := hW.obj.lt
    have hlX : bX < w.heap.size := hP.obj.lt
    have hlR : bR < w.heap.size := hP.refs.lt
    have hO1 := hW.obj.frm hf0 (fun h => h)
    have hwy1 := hW.way.low.frm hf0 (fun _ _ h => h)
    have hP1 := hP.low.frm hf0 (fun h => h) (fun _ _ h => h) (fun h => h)
    have hC1 := hC.low.frm hf0 (fun _ _ h => h)
    have hww : ∃ Aw cw, v = .slice Aw way.length cw := hW.way.form
    obtain ⟨Aw, cw, rfl⟩ := hww
    simp only [CA.cells] at *
    clear IH hm1 hmm ht hr hok hRW htn hF hb hW hP hC h1 h2 r1 r2 r3 r4 r5
    go_enter Try.func51, Try.ntmps51
    go_upto_region 1 with fail
    generalize w.alloc (.cells #[.int .i64 pc, .int .i64 at_, .slice a1 gr c1, .slice a2 gr c2, .slice a3 gr c3, .slice a4 co c4, .slice a5 co c5] 114) = w1 at *
    obtain ⟨bc, hbc⟩ : ∃ bc, w.heap.size = bc := ⟨_, rfl⟩
    simp only [hbc] at hX hlb hlX hlR hwy1 hP1 hC1 ⊢
    have HBC := Lib.hid hbc
    clear hbc
    have hnb : bc ≠ b := by omega
    have hset : Frm (fun q => q = b) w1 (w1.setCell ⟨b, 1, none⟩ (.int .i64 many1)) := (Frm.refl _ w1).set b 1 _ (fun _ => rfl)
    have hO2 := hO1.setSame 1 (.int .i64 many1)
    simp only [List.set_cons_zero, List.set_cons_succ] at hO2
    have hX2 := hX.frm hset hnb
    have hwy2 := hwy1.frm hset (fun q hq e => (HF.out.1 q hq.1).2.2.2.2 e)
    have hP2 := hP1.frm hset (fun e => HF.out.2.2.2.1 e.symm) (fun q hq e => HF.out.2.2.1 (e ▸ hq.1)) (fun e => HF.out.2.2.2.2 e.symm)
    have hC2 := hC1.frm hset (fun q hq e => HF.out.2.1 (e ▸ hq.1))
    have hf2 : Frm (fun q => q = b ∨ Fw q) w (w1.setCell ⟨b, 1, none⟩ (.int .i64 many1)) := hf0.mono (fun _ h _ => h.elim) |>.then hset (fun q hq _ => .inl hq)
    have o0 := hO1.cell 0
    have o1 := hO1.cell 1
    have o2 := hO1.cell 2
    simp only [List.getElem?_cons_zero, List.getElem?_cons_succ] at o0 o1 o2
    have lo := hO1.lt
    have of1 := hO1.frozen 1
    have hz1 := hf0.size
    have hXl := hX.lt
    go_upto_region 2 with fail
    clear o0 o1 o2 lo of1 hX hO1 hwy1 hP1 hC1 hf0 hset
    generalize w1.setCell ⟨b, 1, none⟩ (.int .i64 many1) = w2 at *
    obtain ⟨⟨x0, x1, x2, x3, x4, x5, x6⟩, lx⟩ := blk7 hX2
    have HT2 := Lib.hid (HTX.out _ w2 hC2)
    go_wp2_with fail
    refine HT2.out.mono ?_
    rintro e w3 ⟨rfl, hft⟩
    have hX3 := hX2.frm hft (fun h => h)
    have hO3 := hO2.frm hft (fun h => h)
    have hwy3 := hwy2.frm hft (fun _ _ h => h)
    have hP3 := hP2.frm hft (fun h => h) (fun _ _ h => h) (fun h => h)
    have hC3 := hC2.frm hft (fun _ _ h => h)
    have hf3 := hf2.trans (hft.mono (fun _ h _ => h.elim))
    clear x0 x1 x2 x3 x4 x5 x6 lx HT2 hX2 hO2 hwy2 hP2 hC2 hf2 hft HTX hwm
    have o2 := hO3.cell 2
    simp only [List.getElem?_cons_zero, List.getElem?_cons_succ] at o2
    have lo := hO3.lt
    go_wp2_with fail
    go_loopw [7] (fun i wr => ∃ j : Nat, i = .int .i64 j ∧ j ≤ way.length ∧ wr = w3 ∧ Hid (t ∉ way.take j)) (fun i _ => way.length - (intOf i).toNat)
    case atStart => exact ⟨0, rfl, Nat.zero_le _, rfl, Lib.hid (by simp)⟩
    case round =>
      obtain ⟨j, rfl, hj, hwr, hno⟩ := hrel
      subst hwr
      obtain ⟨w3, hwn⟩ : ∃ w, w = wr := ⟨_, rfl⟩
      subst hwn
      by_cases hjl : j < way.length
      · obtain ⟨u, hu⟩ : ∃ u, way[j]? = some u := ⟨_, List.getElem?_eq_getElem hjl⟩
        have hwk : IntKind.i64.wrap ((j : Int) + 1) = ((j + 1 : Nat) : Int) := by rw [IntWalk.i64_in _ (by omega)]; omega
        obtain ⟨b9, rfl, hFb9, hb9l, cur, hcur, hcx⟩ := hwy3.head (by omega)
        have hcu : w3.cell? ⟨b9, j, none⟩ = some (.string ⟨u.toArray⟩) := by rw [hcur.cell, hcx _ (by simpa using hjl), List.getElem?_map, hu]; rfl
        have hlt : way.take (j + 1) = way.take j ++ [u] := by rw [List.take_add_one, hu]; rfl
        have HLT := Lib.hid (⟨hlt, hu⟩ : _ ∧ _)
        clear hlt hu hcur hcx
        by_cases hut : u = t
        · have t1 : (u == t) = true := by simpa using hut
          have hin : t ∈ way := by rw [← hut]; exact List.mem_of_getElem? HLT.out.2
          have hm : m1 = many1 := by have := HM1.out.1; rw [if_pos hin] at this; exact this.symm
          have HW : Hid (WkM w3 (fun q => Fw q ∨ w.heap.size ≤ q) b bX m1 way (.slice (some ⟨b9, 0, none⟩) way.length cw) ∧ Frm (fun q => q = b ∨ Fw q) w w3) := Lib.hid (by
            rw [hm]
            exact ⟨⟨hO3, hwy3.mono (fun q h _ => .inl h.1)⟩, hf3⟩)
          clear hut hin hm hO3 hwy3 hf3
          go_wp2_with fail
          refine bodyPost_ret (results_none rfl _ _ _) rfl ?_
          exact ⟨_, rfl, HW.out⟩
        · have t1 : (u == t) = false := by simpa using hut
          have hno2 : t ∉ way.take (j + 1) := by
            rw [HLT.out.1, List.mem_append, List.mem_singleton]
            rintro (h | h)
            · exact hno.out h
            · exact hut h.symm
          have HNO := Lib.hid hno2
          clear hut hno2
          go_wp2_with fail
          go_roundw
          case measure => simp [intOf] <;> omega
          case rel => exact ⟨j + 1, by go_num, by omega, by first | rfl | trivial, HNO⟩
      · obtain rfl : j = way.length := by omega
        have hout : t ∉ way := by have := hno.out; rwa [List.take_of_length_le (Nat.le_refl _)] at this
        obtain ⟨nx, hnx⟩ : ∃ nx, nextR ins fo line.toList (refsN ins gr) ⟨pc, at_, began, frm, til, turns, last⟩ = nx := ⟨_, rfl⟩
        have HM2 : Hid (kidsR (nextR ins fo line.toList (refsN ins gr)) most F (way ++ [t]) nx many1 = m1) := Lib.hid (by have := HM1.out.1; rw [if_neg hout, hnx] at this; exact this)
        have HNX := Lib.hid hnx
        clear hno hout hnx
        obtain ⟨wl, hwl9⟩ : ∃ wl, way.length = wl := ⟨_, rfl⟩
        obtain ⟨wl1, hwl2⟩ : ∃ wl1, wl + 1 = wl1 := ⟨_, rfl⟩
        simp only [hwl9] at hwy3 hO3 o2 hwl hwl1 ⊢
        have HWL := Lib.hid (⟨hwl9, hwl2⟩ : _ ∧ _)
        clear hwl9 hwl2 hj hjl
        have o0 := hO3.cell 0
        simp only [List.getElem?_cons_zero] at o0
        go_wp2_with (with_reducible refine stop_at 44 rfl ?_)
        unfold Stop
        have hBN := Blk.new w3 [.string ⟨t.toArray⟩] 9
        have hfn : Frm (fun _ => False) w3 (w3.alloc (.cells #[.string ⟨t.toArray⟩] 9)) := (Frm.refl _ _).alloc _
        refine op_append rfl _ _ _ rfl 9 _ 1 16 Try.underlying107 infoS rfl (by omega) (hwy3.low.frm hfn (fun _ _ h => h)) rfl ⟨w3.heap.size, 0, none⟩ 1 1 [.string ⟨t.toArray⟩] rfl rfl (fun j u hu => (hBN.cellAdd 0 j).trans (by rw [Nat.zero_add]; exact hu)) (by intro u hu; rw [List.mem_singleton] at hu; subst hu; rfl) (by simp only [maxLen]; omega) (by omega) ?_
        intro v4 w4 hf4 hs4
        rw [HWL.out.2] at hs4
        obtain ⟨A4, cw4, rfl⟩ := hs4.form
        have hz3 := hfn.size
        have hz0 := hf3.size
        have hO4 := (hO3.frm hfn (fun h => h)).frm hf4 (fun h => (HF.out.1 b h.1.1).2.2.2.2 rfl)
        have hX4 := (hX3.frm hfn (fun h => h)).frm hf4 (fun h => by have := h.1.2; omega)
        have hP4 := (hP3.frm hfn (fun h => h) (fun _ _ h => h) (fun h => h)).frm hf4 (fun h => (HF.out.1 _ h.1.1).2.2.1 rfl) (fun q hq h => (HF.out.1 q h.1.1).2.1 hq.1) (fun h => (HF.out.1 _ h.1.1).2.2.2.1 rfl)
        have hC4 := (hC3.frm hfn (fun _ _ h => h)).frm hf4 (fun q hq h => (HF.out.1 q h.1.1).1 hq.1)
        have hf4' : Frm (fun q => q = b ∨ Fw q) w w4 := (hf3.trans (hfn.mono (fun _ h _ => h.elim))).then hf4 (fun q h _ => .inr h.1.1)
        have hs4' : Sl w4 (fun q => (Fw q ∧ q < bc) ∨ w3.heap.size ≤ q) 9 1 (.slice A4 wl1 cw4) wl1 ((way ++ [t]).map SV) := by
          rw [List.map_append]
          exact hs4.mono (by rintro q (h | h) _; exact .inl h.1; exact .inr (by omega))
        have hz4 := hf4.size
        have hbc3 : bc < w3.heap.size := hX3.lt
        clear hs4 hf4 hO3 hwy3 hP3 hC3 hX3 hf3 hBN hfn o0 o2 lo
        have hset : Frm (fun q => q = b) w4 (w4.setCell ⟨b, 2, none⟩ (.slice A4 wl1 cw4)) := (Frm.refl _ w4).set b 2 _ (fun _ => rfl)
        have hO5 := hO4.setSame 2 (.slice A4 wl1 cw4)
        simp only [List.set_cons_zero, List.set_cons_succ] at hO5
        have hX5 := hX4.frm hset hnb
        have hwy5 := hs4'.frm hset (fun q hq e => by rcases hq with hq | hq; exact (HF.out.1 q hq.1).2.2.2.2 e; omega)
        have hP5 := hP4.frm hset (fun e => HF.out.2.2.2.1 e.symm) (fun q hq e => HF.out.2.2.1 (e ▸ hq.1)) (fun e => HF.out.2.2.2.2 e.symm)
        have hC5 := hC4.frm hset (fun q hq e => HF.out.2.1 (e ▸ hq.1))
        have hf5 := hf4'.then hset (fun q hq _ => .inl hq)
        have o0 := hO4.cell 0
        have o2 := hO4.cell 2
        simp only [List.getElem?_cons_zero, List.getElem?_cons_succ] at o0 o2
        have lo := hO4.lt
        have of2 := hO4.frozen 2
        have hz5 := hset.size
        go_upto_region 8 with fail
        clear o0 o2 lo of2 hO4 hX4 hs4' hP4 hC4 hf4' hset
        generalize w4.setCell ⟨b, 2, none⟩ (.slice A4 wl1 cw4) = w5 at *
        have o0 := hO5.cell 0
        simp only [List.getElem?_cons_zero, List.getElem?_cons_succ] at o0
        have lo := hO5.lt
        obtain ⟨⟨x0, x1, x2, x3, x4, x5, x6⟩, lx⟩ := blk7 hX5
        go_still_tail 5, (by kernel_rfl)
        change wpList _ _ _ _ _ w5.drew
        have hdr : Frm (fun _ => False) w5 w5.drew := (Frm.refl _ w5).drew
        have hO6 := hO5.frm hdr (fun h => h)
        have hwy6 := hwy5.low.frm hdr (fun _ _ h => h)
        have hP6 := hP5.frm hdr (fun h => h) (fun _ _ h => h) (fun h => h)
        have hC6 := hC5.frm hdr (fun _ _ h => h)
        have hf6 := hf5.trans (hdr.mono (fun _ h _ => h.elim))
        have hz6 : w5.heap.size = w5.drew.heap.size := rfl
        clear o0 lo x0 x1 x2 x3 x4 x5 x6 lx hO5 hX5 hwy5 hP5 hC5 hf5 hdr
        rw [hz6] at hwy6
        generalize w5.drew = w6 at *
        have HNC := Lib.hid (nextC bX A n cp gr co fo ins line bR sv mv ⟨a1, a2, a3, a4, a5, c1, c2, c3, c4, c5⟩ ⟨pc, at_, began, frm, til, turns, last⟩ _ _ w6 hP6 hC6 HRW.out.1 HR.out.1 HR.out.2 hN)
        rw [HNX.out] at HNC
        go_wp2_with fail
        refine HNC.out.mono ?_
        rintro e w7 ⟨v7, rfl, ⟨ps, hps, hS7, hCs7⟩, hf67⟩
        obtain ⟨A7, c7, rfl⟩ := hS7.form
        have hl67 := hf67.size
        have hw36 : w3.heap.size ≤ w6.heap.size := by omega
        have hO7 := hO6.frm hf67 (fun h => h)
        have hwy7 : Sl w7 (fun q => ((Fw q ∧ q < bc) ∨ w3.heap.size ≤ q) ∧ ¬ (w6.heap.size ≤ q ∧ q < w7.heap.size)) 9 1 (.slice A4 wl1 cw4) wl1 ((way ++ [t]).map SV) := (hwy6.frm hf67 (fun _ _ h => h)).mono (fun q h _ => ⟨h.1, fun h2 => by have := h.2; omega⟩)
        have hP7 := hP6.frm hf67 (fun h => h) (fun _ _ h => h) (fun h => h)
        have hf7 := hf6.trans (hf67.mono (fun _ h _ => h.elim))
        have hRd7 : Rd w7 (fun q => w6.heap.size ≤ q ∧ q < w7.heap.size) 7 A7 nx.length c7 (flatC gr co ps) := hS7.rd.low.mono (fun q h _ => h)
        have hCs8 : ∀ p ∈ ps, CRd w7 (fun q => (D q ∧ q < bc) ∨ (w6.heap.size ≤ q ∧ q < w7.heap.size)) p.1 gr co p.2 := fun p hp => (hCs7 p hp).low.mono (fun q h _ => by rcases h.1 with h1 | h1; exact .inl h1; exact .inr ⟨h1, h.2⟩)
        have HWL2 : (way ++ [t]).length = wl1 := by have := HWL.out; simp; omega
        have hkw : WkM w7 (fun q => ((Fw q ∧ q < bc) ∨ w3.heap.size ≤ q) ∧ ¬ (w6.heap.size ≤ q ∧ q < w7.heap.size)) b bX many1 (way ++ [t]) (.slice A4 wl1 cw4) := ⟨hO7, by rw [HWL2]; exact hwy7⟩
        have HS := Lib.hid (⟨hps, hRd7, hCs8, hP7, hf7⟩ : _ ∧ _ ∧ _ ∧ _ ∧ _)
        have hn2 : nx.length ≤ 2 := by rw [← HNX.out]; exact next_len _ _ _ _ _
        obtain ⟨N, hN7⟩ : ∃ N, nx.length = N := ⟨_, rfl⟩
        rw [hN7] at hn2
        have HNL := Lib.hid (⟨hN7, HWL2⟩ : _ ∧ _)
        rw [hN7]
        have h0 : ∃ (j many2 : Nat) (v : Value), (.int .i64 0 : Value) = .int .i64 j ∧ j ≤ N ∧ kidsR (nextR ins fo line.toList (refsN ins gr)) most F (way ++ [t]) (nx.take j) many1 = many2 ∧ many1 ≤ many2 ∧ many2 ≤ most + 1 ∧ WkM w7 (fun q => ((Fw q ∧ q < bc) ∨ w3.heap.size ≤ q) ∧ ¬ (w6.heap.size ≤ q ∧ q < w7.heap.size)) b bX many2 (way ++ [t]) v ∧ Frm (fun q => q = b ∨ (((Fw q ∧ q < bc) ∨ w3.heap.size ≤ q) ∧ ¬ (w6.heap.size ≤ q ∧ q < w7.heap.size))) w7 w7 :=
          ⟨0, many1, _, rfl, Nat.zero_le _, rfl, Nat.le_refl _, hm1b, hkw, Frm.refl _ _⟩
        have H0 := Lib.hid h0
        clear h0 hps hS7 hCs7 hO7 hwy7 hP7 hf7 hRd7 hCs8 hkw hO6 hwy6 hP6 hC6 hf6 hf67 HNC hN7 HWL2
        go_wp2_with fail
        go_loopw [9] (fun i wr => ∃ (j many2 : Nat) (v : Value), i = .int .i64 j ∧ j ≤ N ∧ kidsR (nextR ins fo line.toList (refsN ins gr)) most F (way ++ [t]) (nx.take j) many1 = many2 ∧ many1 ≤ many2 ∧ many2 ≤ most + 1 ∧ WkM wr (fun q => ((Fw q ∧ q < bc) ∨ w3.heap.size ≤ q) ∧ ¬ (w6.heap.size ≤ q ∧ q < w7.heap.size)) b bX many2 (way ++ [t]) v ∧ Frm (fun q => q = b ∨ (((Fw q ∧ q < bc) ∨ w3.heap.size ≤ q) ∧ ¬ (w6.heap.size ≤ q ∧ q < w7.heap.size))) w7 wr) (fun i _ => N - (intOf i).toNat)
        case atStart => exact H0.out
        case round =>
          clear H0
          obtain ⟨j, many2, v, rfl, hj, hkd, hm2, hm3, hWk, hfr⟩ := hrel
          have HKD := Lib.hid hkd
          clear hkd
          obtain ⟨Av, cv, rfl⟩ := hWk.way.form
          rw [HNL.out.2] at hWk
          obtain ⟨bb, hbb⟩ : ∃ bb, decide (j < N ∧ many2 ≤ most) = bb := ⟨_, rfl⟩
          have o1 := hWk.obj.cell 1
          simp only [List.getElem?_cons_zero, List.getElem?_cons_succ] at o1
          have lo := hWk.obj.lt
          have HBB := Lib.hid hbb
          go_upto_region 10 with fail
          go_cut [64] from 53 to 64 (fun v wx => v = .bool bb ∧ wx = wr)
          case first =>
            by_cases hj1 : j < N
            · have d1 : decide ((j : Int) < (N : Int)) = true := decide_eq_true (by omega)
              have d1n : decide (j < N) = true := decide_eq_true hj1
              have d2 : decide ((many2 : Int) ≤ (most : Int)) = bb := by rw [← hbb]; simp [hj1]
              have d2n : decide (many2 ≤ most) = bb := by rw [← hbb]; simp [hj1]
              clear hbb hj1
              go_wp2_with fail
              go_meet
              exact ⟨by first | rfl | simp [d2n], rfl⟩
            · have d1 : decide ((j : Int) < (N : Int)) = false := decide_eq_false (by omega)
              have d1n : decide (j < N) = false := decide_eq_false hj1
              obtain rfl : bb = false := by rw [← hbb]; simp [hj1]
              clear hbb hj1
              go_wp2_with fail
              go_meet
              exact ⟨rfl, rfl⟩
          case rest =>
            obtain ⟨rfl, hwr⟩ := hcut
            clear o1 lo hbb
            subst hwr
            obtain ⟨w8, hwn⟩ : ∃ w, w = wc := ⟨_, rfl⟩
            subst hwn
            cases bb with
            | true =>
              have hjm : j < N ∧ many2 ≤ most := of_decide_eq_true HBB.out
              obtain ⟨hj1, hm9⟩ := hjm
              have hpl : ps.length = N := by have := HS.out.1; rw [← HNL.out.1, ← this]; simp
              obtain ⟨p, hp⟩ : ∃ p, ps[j]? = some p := ⟨_, List.getElem?_eq_getElem (by omega)⟩
              have hnj : nx[j]? = some p.2 := by rw [← HS.out.1, List.getElem?_map, hp]; rfl
              have hpm := List.mem_of_getElem? hp
              have hCk := (HS.out.2.2.1 p hpm).frm hfr (fun q hq e => by
                rcases e with e | e
                · subst e
                  rcases hq with hq | hq
                  · exact HF.out.2.1 hq.1
                  · omega
                · rcases hq with hq | hq
                  · rcases e.1 with h | h
                    · exact (HF.out.1 q h.1).1 hq.1
                    · omega
                  · exact e.2 hq)
              have hPk := HS.out.2.2.2.1.frm hfr (by
                rintro (e | e)
                · exact HF.out.2.2.2.1 e.symm
                · rcases e.1 with h | h
                  · exact (HF.out.1 _ h.1).2.2.1 rfl
                  · omega) (fun q hq e => by
                rcases e with e | e
                · subst e; exact HF.out.2.2.1 hq.1
                · rcases e.1 with h | h
                  · exact (HF.out.1 q h.1).2.1 hq.1
                  · have := hq.2; omega) (by
                rintro (e | e)
                · exact HF.out.2.2.2.2 e.symm
                · rcases e.1 with h | h
                  · exact (HF.out.1 _ h.1).2.2.2.1 rfl
                  · omega)
              have hRk := HS.out.2.1.frm hfr (fun q hq e => by
                rcases e with e | e
                · have := hq.1; omega
                · exact e.2 hq)
              obtain ⟨pb, po, rfl, hpb, hpc⟩ := hRk.conf j p hp (by rw [HNL.out.1]; exact hj1)
              obtain ⟨⟨e1, e2, e3, e4, e5, g1, g2, g3, g4, g5⟩, ⟨epc, eat, eb, ef, et, etu, el⟩⟩ := p
              have i0 := hpc 0 _ rfl
              have i1 := hpc 1 _ rfl
              have i2 := hpc 2 _ rfl
              have i3 := hpc 3 _ rfl
              have i4 := hpc 4 _ rfl
              have i5 := hpc 5 _ rfl
              have i6 := hpc 6 _ rfl
              rw [Nat.add_zero] at i0
              have hmem : (⟨epc, eat, eb, ef, et, etu, el⟩ : RC) ∈ nextR ins fo line.toList (refsN ins gr) ⟨pc, at_, began, frm, til, turns, last⟩ := by rw [HNX.out]; exact List.mem_of_getElem? hnj
              have hlb2 : line.toList.length = line.size := by rw [ByteArray.toList_eq]; simp
              obtain ⟨q1, q2, q3, q4, q5⟩ := right_ok HR.out.1
              have hRW0 := HRW.out.1
              rw [← hlb2] at hRW0
              obtain ⟨hRWk, htk⟩ := next_RW (gr := (gr : Int)) (co := (co : Int)) (M := (many : Int)) (fun k i hi => fine_ok (q5 k i hi)) hRW0 HRW.out.2 (by omega) hmem
              rw [hlb2] at hRWk
              obtain ⟨mk, hmk⟩ : ∃ mk, walkR (nextR ins fo line.toList (refsN ins gr)) most F many2 (way ++ [t]) ⟨epc, eat, eb, ef, et, etu, el⟩ = mk := ⟨_, rfl⟩
              have hbd := walk_bd (nextR ins fo line.toList (refsN ins gr)) most F many2 (way ++ [t]) ⟨epc, eat, eb, ef, et, etu, el⟩ hm9
              rw [hmk] at hbd
              have HCALL := Lib.hid (HIH.out many2 (way ++ [t]) (.slice Av wl1 cv) ⟨e1, e2, e3, e4, e5, g1, g2, g3, g4, g5⟩ ⟨epc, eat, eb, ef, et, etu, el⟩ (fun q => ((Fw q ∧ q < bc) ∨ w3.heap.size ≤ q) ∧ ¬ (w6.heap.size ≤ q ∧ q < w7.heap.size)) (fun q => (D q ∧ q < bc) ∨ (w6.heap.size ≤ q ∧ q < w7.heap.size)) (fun q => E q ∧ q < bc) w8 hm9 (by omega) hWk hPk hCk hRWk (fun z hz => by have := htk z hz; have := HM1.out.2.1; omega) (by rw [HNL.out.2]; have := HWL.out; omega)
                (fun q hq => ⟨by
                  rintro (h | h)
                  · rcases hq.1 with g | g
                    · exact (HF.out.1 q g.1).1 h.1
                    · omega
                  · exact hq.2 h, by
                  rintro h
                  rcases hq.1 with g | g
                  · exact (HF.out.1 q g.1).2.1 h.1
                  · have := h.2; omega, by
                  rcases hq.1 with g | g
                  · exact (HF.out.1 q g.1).2.2.1
                  · omega, by
                  rcases hq.1 with g | g
                  · exact (HF.out.1 q g.1).2.2.2.1
                  · omega, by
                  rcases hq.1 with g | g
                  · exact (HF.out.1 q g.1).2.2.2.2
                  · omega⟩)
                ⟨by
                  rintro (h | h)
                  · exact HF.out.2.1 h.1
                  · omega, fun h => HF.out.2.2.1 h.1, HF.out.2.2.2.1, HF.out.2.2.2.2⟩)
              rw [hmk] at HCALL
              have hwk : IntKind.i64.wrap ((j : Int) + 1) = ((j + 1 : Nat) : Int) := by rw [IntWalk.i64_in _ (by omega)]; omega
              have hkn : kidsR (nextR ins fo line.toList (refsN ins gr)) most F (way ++ [t]) (nx.take (j + 1)) many1 = mk := by
                have := HKD.out
                unfold kidsR at this ⊢
                rw [List.take_add_one, hnj, Option.toList_some, List.foldl_append, this, List.foldl_cons, List.foldl_nil, if_pos hm9, hmk]
              have HKN := Lib.hid hkn
              have hw78 := hfr.size
              have hWo := hWk.obj
              clear hWk hpc hCk hPk hRk hmk hkn hp hnj hmem hRWk htk hRW0 q1 q2 q3 q4 q5
              have o0 := hWo.cell 0
              simp only [List.getElem?_cons_zero] at o0
              have lo := hWo.lt
              go_wp2_with fail
              refine HCALL.out.mono ?_
              rintro e w9 ⟨v9, rfl, hWk9, hf89⟩
              have HRL : Hid (∃ (j2 many3 : Nat) (v : Value), (.int .i64 ((j + 1 : Nat) : Int) : Value) = .int .i64 j2 ∧ j2 ≤ N ∧ kidsR (nextR ins fo line.toList (refsN ins gr)) most F (way ++ [t]) (nx.take j2) many1 = many3 ∧ many1 ≤ many3 ∧ many3 ≤ most + 1 ∧ WkM w9 (fun q => ((Fw q ∧ q < bc) ∨ w3.heap.size ≤ q) ∧ ¬ (w6.heap.size ≤ q ∧ q < w7.heap.size)) b bX many3 (way ++ [t]) v ∧ Frm (fun q => q = b ∨ (((Fw q ∧ q < bc) ∨ w3.heap.size ≤ q) ∧ ¬ (w6.heap.size ≤ q ∧ q < w7.heap.size))) w7 w9) := Lib.hid
                ⟨j + 1, mk, v9, rfl, by omega, HKN.out, by omega, hbd.2, ⟨hWk9.obj, hWk9.way.mono (fun q h _ => by
                  rcases h with h | h
                  · exact h
                  · exact ⟨.inr (by omega), fun h2 => by omega⟩)⟩, hfr.trans hf89⟩
              clear hWk9 hf89 hfr HKN HCALL o0 lo hWo i0 i1 i2 i3 i4 i5 i6
              go_wp2_with fail
              go_roundw
              case measure => simp [intOf] <;> omega
              case rel => first | exact HRL.out | (have h := HRL.out; rw [show (((j + 1 : Nat) : Int)) = (j : Int) + 1 by omega] at h; exact h)
            | false =>
              have hjm : ¬ (j < N ∧ many2 ≤ most) := of_decide_eq_false HBB.out
              have hmm : many2 = m1 := by
                rw [← HM2.out]
                have hk := HKD.out
                by_cases hjN : j < N
                · have hgt : most < many2 := by omega
                  have : nx = nx.take j ++ nx.drop j := (List.take_append_drop _ _).symm
                  rw [this]
                  unfold kidsR at hk ⊢
                  rw [List.foldl_append, hk]
                  exact (kids_stop (nextR ins fo line.toList (refsN ins gr)) most F (way ++ [t]) (nx.drop j) many2 hgt).symm
                · rw [← hk, List.take_of_length_le (by rw [HNL.out.1]; omega)]
              subst hmm
              have hl1 : wl1 = wl + 1 := HWL.out.2.symm
              have hwayc : (Sl w8 (fun q => ((Fw q ∧ q < bc) ∨ w3.heap.size ≤ q) ∧ ¬ (w6.heap.size ≤ q ∧ q < w7.heap.size)) 9 1 (.slice Av wl cv) wl (way.map SV)) := by
                have h := hWk.way
                rw [HNL.out.2] at h
                have h2 := h.cut (k := wl) (by omega)
                have e : ((way ++ [t]).map SV).take (wl * 1) = way.map SV := by
                  rw [Nat.mul_one, List.map_append, List.take_left' (by rw [List.length_map]; exact HWL.out.1)]
                rwa [e] at h2
              have hcap : wl1 ≤ cv := by
                have h := hWk.way
                rw [HNL.out.2] at h
                exact h.rd.cap
              have hwy9 := hWk.way
              rw [HNL.out.2] at hwy9
              obtain ⟨b9, hAv, _, hb9l, _⟩ := hwy9.head (by omega)
              clear hwy9
              subst hAv
              have hWo := hWk.obj
              have hset : Frm (fun q => q = b) w8 (w8.setCell ⟨b, 2, none⟩ (.slice (some ⟨b9, 0, none⟩) wl cv)) := (Frm.refl _ w8).set b 2 _ (fun _ => rfl)
              have hO9 := hWo.setSame 2 (.slice (some ⟨b9, 0, none⟩) wl cv)
              simp only [List.set_cons_zero, List.set_cons_succ] at hO9
              have hfz : Frm (fun q => q = b ∨ Fw q) w (w8.setCell ⟨b, 2, none⟩ (.slice (some ⟨b9, 0, none⟩) wl cv)) := (HS.out.2.2.2.2.then hfr (fun q hq hl => by
                rcases hq with h | h
                · exact .inl h
                · rcases h.1 with g | g
                  · exact .inr g.1
                  · omega)).then hset (fun q hq _ => .inl hq)
              have hwayd := hwayc.frm hset (fun q hq e => by
                rcases hq.1 with g | g
                · exact (HF.out.1 q g.1).2.2.2.2 e
                · omega)
              have HFIN : Hid (WkM (w8.setCell ⟨b, 2, none⟩ (.slice (some ⟨b9, 0, none⟩) wl cv)).drew (fun q => Fw q ∨ w.heap.size ≤ q) b bX many2 way (.slice (some ⟨b9, 0, none⟩) wl cv) ∧ Frm (fun q => q = b ∨ Fw q) w (w8.setCell ⟨b, 2, none⟩ (.slice (some ⟨b9, 0, none⟩) wl cv)).drew) := Lib.hid
                ⟨⟨hO9.drew, by rw [HWL.out.1]; exact (hwayd.drew.mono (fun q h _ => by
                  rcases h.1 with g | g
                  · exact .inl g.1
                  · exact .inr (by omega)))⟩, hfz.drew⟩
              have o0 := hWo.cell 0
              have o2 := hWo.cell 2
              simp only [List.getElem?_cons_zero, List.getElem?_cons_succ] at o0 o2
              have lo := hWo.lt
              have of2 := hWo.frozen 2
              have hwq : IntKind.i64.wrap ((wl1 : Int) - 1) = (wl : Int) := by rw [IntWalk.i64_in _ (by omega)]; omega
              have hwlc : wl ≤ cv := by omega
              clear hWk hWo hset hO9 hfz hwayc hwayd hfr hl1 HKD
              go_wp2_with fail
              go_region
              all_goals
                go_wp2_with fail
                go_end0
                exact ⟨_, rfl, HFIN.out⟩
end Go.Proofs.Ytoadmpochaeohaa
end
