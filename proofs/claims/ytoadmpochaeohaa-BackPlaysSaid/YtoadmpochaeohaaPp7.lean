/-
  Layer 20: BackPlays' law, walked.
-/
import Derived.Test.YtoadmpochaeohaaPp5
import Derived.Test.YtoadmpochaeohaaPp6
import Derived.Test.YtoadmpochaeohaaPa38
import Derived.Deep.Strs
section
set_option linter.unusedVariables false
set_option linter.unusedSimpArgs false
set_option maxRecDepth 100000
namespace Go.Proofs.Ytoadmpochaeohaa
open Go.RowKit

theorem flatK_len (l : List Cal) : (flatK l).length = l.length * 3 := by
  induction l with
  | nil => rfl
  | cons x l ih => simp only [flatK, List.flatMap_cons, List.length_append] at *; rw [ih]; simp [Cal.cells]; omega
theorem flatK_get : ∀ (l : List Cal) (k : Nat) (p : Cal), l[k]? = some p → ∀ j, j < 3 → (flatK l)[k * 3 + j]? = p.cells[j]?
  | [], k, p, h, j, hj => by simp at h
  | x :: l, 0, p, h, j, hj => by
    simp at h; subst h
    rw [flatK, List.flatMap_cons, Nat.zero_mul, Nat.zero_add, List.getElem?_append_left (by simp [Cal.cells]; omega)]
  | x :: l, k + 1, p, h, j, hj => by
    rw [flatK, List.flatMap_cons, List.getElem?_append_right (by simp [Cal.cells]; omega), show (k + 1) * 3 + j - (Cal.cells x).length = k * 3 + j by simp [Cal.cells]; omega]
    exact flatK_get l k p (by simpa using h) j hj
theorem Rd.cal {w : World} {F : Nat → Prop} {A : Option Addr} {n c : Nat} {l : List Cal} (h : Rd w F 3 A n c (flatK l)) (k : Nat) (p : Cal) (hk : l[k]? = some p) : ∃ b off, A = some ⟨b, off, none⟩ ∧ b < w.heap.size ∧
    ∀ j v, p.cells[j]? = some v → w.cell? ⟨b, off + k * 3 + j, none⟩ = some v := by
  have hk' := (List.getElem?_eq_some_iff.1 hk).1
  have hn : l.length = n := by have := h.len; rw [flatK_len] at this; omega
  obtain ⟨b, off, hA, hb, hc⟩ := h.elem k (by omega)
  refine ⟨b, off, hA, hb, fun j v hj => hc j v ?_⟩
  rw [flatK_get l k p hk j (by have := (List.getElem?_eq_some_iff.1 hj).1; simpa [Cal.cells] using this)]
  exact hj
theorem set10 {w : World} {b : Nat} {cur : List Value} {t : TypeId} (h : Blk w b cur t) (o : Nat) (v0 v1 v2 v3 v4 v5 v6 v7 v8 v9 : Value) :
    (∃ cur', Blk ((((((((((w.setCell ⟨b, o, none⟩ v0).setCell ⟨b, o + 1, none⟩ v1).setCell ⟨b, o + 2, none⟩ v2).setCell ⟨b, o + 3, none⟩ v3).setCell ⟨b, o + 4, none⟩ v4).setCell ⟨b, o + 5, none⟩ v5).setCell ⟨b, o + 6, none⟩ v6).setCell ⟨b, o + 7, none⟩ v7).setCell ⟨b, o + 8, none⟩ v8).setCell ⟨b, o + 9, none⟩ v9) b cur' t ∧ cur'.length = cur.length) ∧
    Frm (fun q => q = b) w ((((((((((w.setCell ⟨b, o, none⟩ v0).setCell ⟨b, o + 1, none⟩ v1).setCell ⟨b, o + 2, none⟩ v2).setCell ⟨b, o + 3, none⟩ v3).setCell ⟨b, o + 4, none⟩ v4).setCell ⟨b, o + 5, none⟩ v5).setCell ⟨b, o + 6, none⟩ v6).setCell ⟨b, o + 7, none⟩ v7).setCell ⟨b, o + 8, none⟩ v8).setCell ⟨b, o + 9, none⟩ v9) :=
  ⟨⟨_, (((((((((h.setSame o v0).setSame (o + 1) v1).setSame (o + 2) v2).setSame (o + 3) v3).setSame (o + 4) v4).setSame (o + 5) v5).setSame (o + 6) v6).setSame (o + 7) v7).setSame (o + 8) v8).setSame (o + 9) v9, by simp only [List.length_set]⟩,
   ((((((((((Frm.refl (fun q => q = b) w).set b o v0 (fun _ => rfl)).set b (o + 1) v1 (fun _ => rfl)).set b (o + 2) v2 (fun _ => rfl)).set b (o + 3) v3 (fun _ => rfl)).set b (o + 4) v4 (fun _ => rfl)).set b (o + 5) v5 (fun _ => rfl)).set b (o + 6) v6 (fun _ => rfl)).set b (o + 7) v7 (fun _ => rfl)).set b (o + 8) v8 (fun _ => rfl)).set b (o + 9) v9 (fun _ => rfl)⟩
/-- While the program that was handed in is written over. -/
def OvI (w0 : World) (b9 n : Nat) (i : Value) (wr : World) : Prop := ∃ (k : Nat) (cur : List Value), i = .int .i64 k ∧ k ≤ n ∧ Blk wr b9 cur 39 ∧ n * 10 ≤ cur.length ∧ Frm (fun q => q = b9) w0 wr
/-- Between two calls. -/
def PyI (T : World → Nat → Nat → Prop) (pl : Bool) (N : Nat) (i : Value) (wr : World) : Prop := ∃ k s q : Nat, i = .int .i64 k ∧ k ≤ N ∧ k ≤ 30 ∧ T wr s q ∧ s ≤ k * 300000 ∧ q ≤ 8001 ∧ Hid (pl = true → q = 0)
set_option maxHeartbeats 16000000 in
theorem lawPlayB (A : Option Addr) (n cp : Nat) (gr co : Int) (fo pl : Bool) (ins : List Ins) (A2 : Option Addr) (n2 c2 : Nat) (cals : List Cal) (G : Nat → Prop) (w : World) (hrd : Rd w G 10 A n cp (flatI ins)) (hok : ∀ i ∈ ins, i.ok) (hrd2 : Rd w G 3 A2 n2 c2 (flatK cals)) (hc2 : c2 ≤ maxLen) :
    Calls Try.prog 4 #[.agg #[.slice A n cp, .int .i64 gr, .int .i64 co, .bool fo], .bool pl, .slice A2 n2 c2] w fun e w' => e = .returned (.bool true) ∧ Frm (fun _ => False) w w' := by
  have hP := Blk.new w [.slice A n cp, .int .i64 gr, .int .i64 co, .bool fo] 24
  have hf0 : Frm (fun _ => False) w (w.alloc (.cells #[.slice A n cp, .int .i64 gr, .int .i64 co, .bool fo] 24)) := (Frm.refl _ w).alloc _
  have HK := Lib.hid (knownC (w.alloc (.cells #[.slice A n cp, .int .i64 gr, .int .i64 co, .bool fo] 24)))
  have HRD := Lib.hid ((hrd.mono (G := fun q => q < w.heap.size) (fun _ _ h => h)).frm hf0 (fun _ _ h => h))
  have HRD2 := Lib.hid ((hrd2.mono (G := fun q => q < w.heap.size) (fun _ _ h => h)).frm hf0 (fun _ _ h => h))
  have HOK := Lib.hid hok
  have HC2 := Lib.hid (⟨hrd2.cap, hc2⟩ : _ ∧ _)
  clear hrd hok hrd2 hc2
  go_enter Try.func4, Try.ntmps4
  go_upto_region 1 with fail
  generalize w.alloc (.cells #[.slice A n cp, .int .i64 gr, .int .i64 co, .bool fo] 24) = w1 at *
  obtain ⟨bP, hbP⟩ : ∃ bP, w.heap.size = bP := ⟨_, rfl⟩
  simp only [hbP] at hP HRD HRD2 ⊢
  have HBP := Lib.hid hbP
  clear hbP
  go_wp2_with fail
  refine HK.out.mono ?_
  rintro e w2 ⟨rfl, hf2⟩
  have hP2 := hP.frm hf2 (fun h => h)
  have HRD := Lib.hid (HRD.out.frm hf2 (fun _ _ h => h))
  have HRD2 := Lib.hid (HRD2.out.frm hf2 (fun _ _ h => h))
  have hff := hf0.trans hf2
  clear hP hf2 hf0 HK
  obtain ⟨x0, x1, x2, x3, y0, y1, y2, y3, lx⟩ := blk4 hP2
  have HRR := Lib.hid (refRight A n cp gr co fo ins _ w2 HRD.out)
  obtain ⟨re, hre⟩ : ∃ re, rightE ins gr co = re := ⟨_, rfl⟩
  rw [hre] at HRR
  have HRE := Lib.hid hre
  clear hre
  go_wp2_with fail
  refine HRR.out.mono ?_
  rintro e w3 ⟨⟨kk, rfl⟩, hf3⟩
  have hP3 := hP2.frm hf3 (fun h => h)
  have HRD := Lib.hid (HRD.out.frm hf3 (fun _ _ h => h))
  have HRD2 := Lib.hid (HRD2.out.frm hf3 (fun _ _ h => h))
  have hff3 := hff.trans hf3
  clear x0 x1 x2 x3 y0 y1 y2 y3 lx hP2 hf3 hff HRR
  by_cases hr0 : re = 0
  · subst hr0
    obtain ⟨r1, r2, r3, r4, r5⟩ := right_ok HRE.out
    obtain ⟨gn, rfl⟩ := Int.eq_ofNat_of_zero_le r2.1
    obtain ⟨cn, rfl⟩ := Int.eq_ofNat_of_zero_le r3.1
    have hil : ins.length = n := by have := HRD.out.len; rw [flatI_len] at this; omega
    have HR := Lib.hid (⟨HRE.out, r4, hil⟩ : _ ∧ _ ∧ _)
    have hn0 : 0 < n := by omega
    have hn4 : n ≤ 40000 := by omega
    clear r1 r2 r3 r4 r5 hil
    obtain ⟨x0, x1, x2, x3, y0, y1, y2, y3, lx⟩ := blk4 hP3
    go_upto_region 6 with fail
    have hQ4 := Blk.new w3 [.slice A n cp, .int .i64 gn, .int .i64 cn, .bool fo] 24
    have hf4 : Frm (fun _ => False) w3 (w3.alloc (.cells #[.slice A n cp, .int .i64 gn, .int .i64 cn, .bool fo] 24)) := (Frm.refl _ _).alloc _
    have hP4 := hP3.frm hf4 (fun h => h)
    have HRD := Lib.hid (HRD.out.frm hf4 (fun _ _ h => h))
    have HRD2 := Lib.hid (HRD2.out.frm hf4 (fun _ _ h => h))
    have hff4 := hff3.trans hf4
    have hg3 := hff3.size
    have hlP := hP3.lt
    have hQl := hQ4.lt
    clear x0 x1 x2 x3 y0 y1 y2 y3 lx hP3 hff3 hf4
    generalize w3.alloc (.cells #[.slice A n cp, .int .i64 gn, .int .i64 cn, .bool fo] 24) = w4 at *
    obtain ⟨bQ, hbQ⟩ : ∃ bQ, w3.heap.size = bQ := ⟨_, rfl⟩
    simp only [hbQ] at hQ4 hlP hg3 hQl ⊢
    clear hbQ
    obtain ⟨x0, x1, x2, x3, y0, y1, y2, y3, lx⟩ := blk4 hP4
    go_wp2_with (with_reducible refine stop_at 34 rfl ?_)
    unfold Stop
    refine op_appendRd rfl _ _ _ rfl 39 _ 10 80 Try.underlying22 infoIns rfl (by omega) (Sl.nil (F := fun _ => False)) rfl HRD.out rfl (flatI_one ins) (by simp only [maxLen]; omega) (by omega) ?_
    intro v5 w5 hf5 hs5
    rw [Nat.zero_add, List.nil_append] at hs5
    obtain ⟨A5, c5, rfl⟩ := hs5.form
    have hs5 := hs5.mono (G := fun q => w4.heap.size ≤ q) (fun q h _ => h.elim (fun h => h.elim) id)
    have hP5 := hP4.frm hf5 (fun h => h)
    have hQ5 := hQ4.frm hf5 (fun h => h)
    have HRD := Lib.hid (HRD.out.frm hf5 (fun _ _ h => h))
    have HRD2 := Lib.hid (HRD2.out.frm hf5 (fun _ _ h => h))
    have hff5 := hff4.trans hf5
    have hz5 := hf5.size
    clear x0 x1 x2 x3 y0 y1 y2 y3 lx hP4 hQ4 hff4 hf5
    obtain ⟨x0, x1, x2, x3, y0, y1, y2, y3, lx⟩ := blk4 hQ5
    have hset : Frm (fun q => q = bQ) w5 (w5.setCell ⟨bQ, 0, none⟩ (.slice A5 n c5)) := (Frm.refl (fun q => q = bQ) w5).set bQ 0 _ (fun _ => rfl)
    have hQ6 := hQ5.setSame 0 (.slice A5 n c5)
    simp only [List.set_cons_zero] at hQ6
    have hP6 := hP5.frm hset (by omega)
    have HRD := Lib.hid (HRD.out.frm hset (fun q hq e => by have h1 : q < bP := hq; have h2 : q = bQ := e; omega))
    have HRD2 := Lib.hid (HRD2.out.frm hset (fun q hq e => by have h1 : q < bP := hq; have h2 : q = bQ := e; omega))
    have hs6 := hs5.frm hset (fun q hq e => by have h1 : w4.heap.size ≤ q := hq; have h2 : q = bQ := e; omega)
    have hff6 := hff5.then hset (fun q hq hl => by have h2 : q = bQ := hq; have := HBP.out; omega)
    go_upto_region 7 with fail
    clear x0 x1 x2 x3 y0 y1 y2 y3 lx hQ5 hP5 hs5 hff5 hset
    generalize w5.setCell ⟨bQ, 0, none⟩ (.slice A5 n c5) = w6 at *
    obtain ⟨x0, x1, x2, x3, y0, y1, y2, y3, lx⟩ := blk4 hQ6
    have HN := Lib.hid (newOk A5 n c5 gn cn fo pl ins _ w6 hs6.rd HR.out.1)
    have hg6 := hff6.size
    have hQ6l := hQ6.lt
    go_wp2_with fail
    refine HN.out.mono ?_
    rintro e w7 ⟨b, st, t, D, rfl, hI7, hst, hsh, hb, hD, hf7⟩
    change Idle w7 D b st (mOf ins gn cn fo pl t) 0 0 at hI7
    have hP7 := hP6.frm hf7 (fun h => h)
    have hQ7 := hQ6.frm hf7 (fun h => h)
    have hs7 := hs6.low.frm hf7 (fun _ _ h => h)
    have HRD := Lib.hid (HRD.out.frm hf7 (fun _ _ h => h))
    have HRD2 := Lib.hid (HRD2.out.frm hf7 (fun _ _ h => h))
    have hff7 := hff6.trans hf7
    have hz7 := hf7.size
    have hlb : b < w7.heap.size := by obtain ⟨_, _, _, h⟩ := hI7.obj; exact h.lt
    obtain ⟨b9, hA5, hF9, hb9, cur, hcur, hcx⟩ := hs7.head (by omega)
    subst hA5
    have hcl : n * 10 ≤ cur.length := by
      have h1 := hcx (n * 10 - 1) (by rw [flatI_len, HR.out.2.2]; omega)
      obtain ⟨v, hv⟩ : ∃ v, (flatI ins)[n * 10 - 1]? = some v := ⟨_, List.getElem?_eq_getElem (by rw [flatI_len, HR.out.2.2]; omega)⟩
      rw [hv] at h1
      have := (List.getElem?_eq_some_iff.1 h1).1
      omega
    have H9 : Hid (w4.heap.size ≤ b9 ∧ b9 < w6.heap.size) := Lib.hid hF9
    have hQ9 : bQ ≠ b9 := by have := H9.out; omega
    have HO0 : Hid (OvI w7 b9 n (.int .i64 0) w7) := Lib.hid ⟨0, cur, rfl, Nat.zero_le _, hcur, hcl, Frm.refl _ _⟩
    have HQ7 := Lib.hid hQ7
    clear x0 x1 x2 x3 y0 y1 y2 y3 lx hQ6 hP6 hs6 hff6 hf7 HN hs7 hF9 hcur hcx hcl
    go_wp2_with fail
    go_loopw [13] (fun i wr => OvI w7 b9 n i wr) (fun i _ => n - (intOf i).toNat)
    case atStart => exact HO0.out
    case round =>
      clear HO0
      obtain ⟨k, cur, rfl, hk, hcur, hcl, hfr⟩ := hrel
      have hQr := HQ7.out.frm hfr (fun e => hQ9 e)
      obtain ⟨x0, x1, x2, x3, y0, y1, y2, y3, lx⟩ := blk4 hQr
      by_cases hkn : k < n
      · have d1 : decide ((k : Int) < (n : Int)) = true := decide_eq_true (by omega)
        have d1n : decide (k < n) = true := decide_eq_true hkn
        have hc : ∀ j, j < 10 → ∃ v, wr.cell? ⟨b9, k * 10 + j, none⟩ = some v := fun j hj => ⟨cur[k * 10 + j]'(by omega), by rw [hcur.cell]; exact List.getElem?_eq_getElem (by omega)⟩
        obtain ⟨v0, c0⟩ := hc 0 (by omega)
        obtain ⟨v1, c1⟩ := hc 1 (by omega)
        obtain ⟨v2, c2'⟩ := hc 2 (by omega)
        obtain ⟨v3, c3⟩ := hc 3 (by omega)
        obtain ⟨v4, c4⟩ := hc 4 (by omega)
        obtain ⟨v5, c5'⟩ := hc 5 (by omega)
        obtain ⟨v6, c6⟩ := hc 6 (by omega)
        obtain ⟨v7, c7⟩ := hc 7 (by omega)
        obtain ⟨v8, c8⟩ := hc 8 (by omega)
        obtain ⟨v9, c9⟩ := hc 9 (by omega)
        rw [Nat.add_zero] at c0
        have f0 := hcur.frozen (k * 10)
        have f1 := hcur.frozen (k * 10 + 1)
        have f2 := hcur.frozen (k * 10 + 2)
        have f3 := hcur.frozen (k * 10 + 3)
        have f4 := hcur.frozen (k * 10 + 4)
        have f5 := hcur.frozen (k * 10 + 5)
        have f6 := hcur.frozen (k * 10 + 6)
        have f7 := hcur.frozen (k * 10 + 7)
        have f8 := hcur.frozen (k * 10 + 8)
        have f9 := hcur.frozen (k * 10 + 9)
        have l9 := hcur.lt
        have HNX : Hid (∀ v0 v1 v2 v3 v4 v5 v6 v7 v8 v9, OvI w7 b9 n (.int .i64 ((k + 1 : Nat) : Int)) ((((((((((wr.setCell ⟨b9, k * 10, none⟩ v0).setCell ⟨b9, k * 10 + 1, none⟩ v1).setCell ⟨b9, k * 10 + 2, none⟩ v2).setCell ⟨b9, k * 10 + 3, none⟩ v3).setCell ⟨b9, k * 10 + 4, none⟩ v4).setCell ⟨b9, k * 10 + 5, none⟩ v5).setCell ⟨b9, k * 10 + 6, none⟩ v6).setCell ⟨b9, k * 10 + 7, none⟩ v7).setCell ⟨b9, k * 10 + 8, none⟩ v8).setCell ⟨b9, k * 10 + 9, none⟩ v9)) := Lib.hid fun v0 v1 v2 v3 v4 v5 v6 v7 v8 v9 => by
          obtain ⟨⟨cur', g1, g2⟩, g3⟩ := set10 hcur (k * 10) v0 v1 v2 v3 v4 v5 v6 v7 v8 v9
          exact ⟨k + 1, cur', rfl, by omega, g1, by rw [g2]; exact hcl, hfr.trans g3⟩
        have hwk : IntKind.i64.wrap ((k : Int) + 1) = ((k + 1 : Nat) : Int) := by rw [IntWalk.i64_in _ (by omega)]; omega
        clear hc hcur hfr hQr
        go_wp2_with fail
        go_roundw
        case measure => simp [intOf] <;> omega
        case rel => first | exact HNX.out _ _ _ _ _ _ _ _ _ _ | (have h := HNX.out; rw [show (((k + 1 : Nat) : Int)) = (k : Int) + 1 by omega] at h; exact h _ _ _ _ _ _ _ _ _ _)
      · obtain rfl : k = n := by omega
        have d1 : decide ((k : Int) < (k : Int)) = false := decide_eq_false (by omega)
        have hTT : ∃ T, PlyT w b bP w7.heap.size A k cp gn cn fo pl ins A2 n2 c2 cals (fun q => q < bP) T ∧ T wr 0 0 := by
          have hzr := hfr.size
          refine ⟨_, ply_T (B := w7.heap.size) (D := fun q => D q ∧ q < w7.heap.size) (G := fun q => q < bP) (t := t) (st := st) HR.out.1 HOK.out hst
            (fun q h => ⟨by have := hD q h.1; omega, h.2⟩) (fun q h => ⟨by have h1 : q < bP := h; omega, by have h1 : q < bP := h; omega⟩) hlb (by omega) (by omega) (by have := HBP.out; omega), ?_⟩
          exact ⟨hI7.low.frm hfr (fun e => by have := H9.out; omega) (fun q h e => by have := H9.out; have := hD q h.1; have h3 : q = b9 := e; omega), hP7.frm hfr (fun e => by have := H9.out; omega), HRD.out.frm hfr (fun q h e => by have := H9.out; have h1 : q < bP := h; have h3 : q = b9 := e; omega), HRD2.out.frm hfr (fun q h e => by have := H9.out; have h1 : q < bP := h; have h3 : q = b9 := e; omega), hff7.then hfr (fun q hq hl => by have h3 : q = b9 := hq; have := H9.out; have := HBP.out; omega), hzr⟩
        obtain ⟨T, hTT, h0⟩ := hTT
        have HT := Lib.hid hTT
        generalize w7.heap.size = B at HT
        have HP0 : Hid (PyI T pl n2 (.int .i64 0) wr) := Lib.hid ⟨0, 0, 0, rfl, Nat.zero_le _, by omega, h0, by omega, by omega, Lib.hid (fun _ => rfl)⟩
        clear hTT h0 hQr hfr hcur hI7 hst hsh hD hb hP7 hff7 hz7 hlb HQ7 hQ7 H9 hQ9 hb9 hg6 hQ6l hz5 hg3 hlP hQl HRD HRD2 HOK HR HRE hcl hn0 hn4 hk hkn HBP
        go_wp2_with fail
        clear x0 x1 x2 x3 y0 y1 y2 y3 lx
        go_loopw [14] (fun i wx => PyI T pl n2 i wx) (fun i _ => n2 - (intOf i).toNat)
        case atStart => exact HP0.out
        case round =>
          clear HP0
          obtain ⟨k1, s1, q1, rfl, hk1, hk30, hT, hs1, hq1, HQ0⟩ := hrel
          have HFW := Lib.hid (HT.out.out _ _ _ hT)
          by_cases hin : k1 < n2 ∧ k1 < 30
          · obtain ⟨hin1, hin2⟩ := hin
            have d2 : decide ((k1 : Int) < (n2 : Int)) = true := decide_eq_true (by omega)
            have d2n : decide (k1 < n2) = true := decide_eq_true hin1
            have d3 : decide ((k1 : Int) < 30) = true := decide_eq_true (by omega)
            have d3n : decide (k1 < 30) = true := decide_eq_true hin2
            have hcl := (HT.out.cal _ _ _ hT)
            have hkl : cals.length = n2 := by have := hcl.len; rw [flatK_len] at this; omega
            obtain ⟨⟨line0, at_, fd⟩, hcal⟩ : ∃ c, cals[k1]? = some c := ⟨_, List.getElem?_eq_getElem (by omega)⟩
            obtain ⟨bC2, oC2, hA2, hbC2, hcc⟩ := hcl.cal k1 _ hcal
            subst hA2
            have e0 := hcc 0 _ rfl
            have e1 := hcc 1 _ rfl
            have e2 := hcc 2 _ rfl
            rw [Nat.add_zero] at e0
            have HTW := Lib.hid hT
            clear hcc hcal hcl hkl hT
            go_upto_region 18 with fail
            have hO := Blk.new wr [.string line0, .int .i64 at_, .bool fd] 41
            have hfO : Frm (fun q => B ≤ q) wr (wr.alloc (.cells #[.string line0, .int .i64 at_, .bool fd] 41)) := (Frm.refl _ _).alloc _
            have hBO : B ≤ wr.heap.size := HFW.out.2
            have HTO := Lib.hid (HT.out.frm _ _ _ _ HTW.out hfO)
            clear e0 e1 e2 HTW hfO hbC2
            generalize wr.alloc (.cells #[.string line0, .int .i64 at_, .bool fd] 41) = w9 at *
            obtain ⟨bO, hbO⟩ : ∃ bO, wr.heap.size = bO := ⟨_, rfl⟩
            simp only [hbO] at hO hBO ⊢
            clear hbO HFW
            obtain ⟨o0, o1, o2, o3, o4, o5, lo⟩ := blk3 hO
            obtain ⟨tb, htb⟩ : ∃ tb, decide (24 < line0.size) = tb := ⟨_, rfl⟩
            have d4 : decide ((24 : Int) < (line0.size : Int)) = tb := by rw [← htb]; congr 1; apply propext; omega
            have HTB := Lib.hid htb
            clear htb
            go_upto_if 81 with fail
            go_cut [] from 82 to 85 (fun wy => ∃ L : ByteArray, L.size ≤ 24 ∧ Blk wy bO [.string L, .int .i64 at_, .bool fd] 41 ∧ Hid (T wy s1 q1))
            case first =>
              cases tb with
              | true =>
                have h24 : 24 < line0.size := of_decide_eq_true HTB.out
                have hx : (line0.extract 0 24).size = 24 := by rw [ByteArray.size_extract]; omega
                have HX := Lib.hid hx
                have hO2 := hO.setSame 0 (.string (line0.extract 0 24))
                simp only [List.set_cons_zero] at hO2
                have HTO2 := Lib.hid (HT.out.frm _ _ _ _ HTO.out ((Frm.refl (fun q => B ≤ q) w9).set bO 0 (.string (line0.extract 0 24)) (fun _ => hBO)))
                have h24' : 24 ≤ line0.size := by omega
                clear hx hO
                go_wp2_with fail
                go_meet
                exact ⟨_, by rw [HX.out]; omega, hO2, HTO2⟩
              | false =>
                have h24 : ¬ 24 < line0.size := of_decide_eq_false HTB.out
                go_wp2_with fail
                go_meet
                exact ⟨line0, by omega, hO, HTO⟩
            case rest =>
              obtain ⟨L, hL, hO, HTO⟩ := hcut
              clear o0 o1 o2 o3 o4 o5 lo d4 HTB
              obtain ⟨w10, hwn⟩ : ∃ w, w = wc := ⟨_, rfl⟩
              subst hwn
              obtain ⟨o0, o1, o2, o3, o4, o5, lo⟩ := blk3 hO
              have HS := Lib.hid (HT.out.steps _ _ _ HTO.out)
              have HKP := Lib.hid (HT.out.kept _ _ _ HTO.out)
              have hwk : IntKind.i64.wrap ((k1 : Int) + 1) = ((k1 + 1 : Nat) : Int) := by rw [IntWalk.i64_in _ (by omega)]; omega
              go_wp2_with fail
              refine HS.out.mono ?_
              rintro e wz ⟨rfl, hwz⟩
              subst hwz
              go_wp2_with fail
              refine HKP.out.mono ?_
              rintro e wz ⟨rfl, hwz⟩
              subst hwz
              have hs1' : s1 ≤ (k1 + 1) * 300000 := by rw [Nat.add_mul]; exact Nat.le_trans hs1 (Nat.le_add_right _ _)
              have HNO : Hid (∀ wz, T wz s1 q1 → PyI T pl n2 (.int .i64 ((k1 + 1 : Nat) : Int)) wz) := Lib.hid fun wz hz => ⟨k1 + 1, s1, q1, rfl, by omega, by omega, hz, hs1', hq1, HQ0⟩
              by_cases hbad : at_ < 0 ∨ (L.size : Int) < at_
              · have HRF := Lib.hid (HT.out.refused _ _ _ L at_ fd HTO.out hbad)
                rcases Int.lt_or_le at_ 0 with hneg | hpos
                · have d5 : decide (at_ < 0) = true := decide_eq_true hneg
                  go_wp2_with fail
                  refine HRF.out.mono ?_
                  rintro e w11 ⟨rfl, hT11, hf11⟩
                  have HS2 := Lib.hid (HT.out.steps _ _ _ hT11)
                  have HKP2 := Lib.hid (HT.out.kept _ _ _ hT11)
                  have HNX := Lib.hid (HNO.out _ hT11)
                  clear hT11 hf11 HRF HS HKP o0 o1 o2 o3 o4 o5 lo hO hbad d5 hneg
                  go_wp2_with fail
                  refine HS2.out.mono ?_
                  rintro e wz ⟨rfl, hwz⟩
                  subst hwz
                  go_wp2_with fail
                  refine HKP2.out.mono ?_
                  rintro e wz ⟨rfl, hwz⟩
                  subst hwz
                  go_wp2_with fail
                  go_roundw
                  case measure => simp [intOf] <;> omega
                  case rel => first | exact HNX.out | (have h := HNX.out; rw [show (((k1 + 1 : Nat) : Int)) = (k1 : Int) + 1 by omega] at h; exact h)
                · have d5 : decide (at_ < 0) = false := decide_eq_false (by omega)
                  have d6 : decide ((L.size : Int) < at_) = true := decide_eq_true (by omega)
                  go_wp2_with fail
                  refine HRF.out.mono ?_
                  rintro e w11 ⟨rfl, hT11, hf11⟩
                  have HS2 := Lib.hid (HT.out.steps _ _ _ hT11)
                  have HKP2 := Lib.hid (HT.out.kept _ _ _ hT11)
                  have HNX := Lib.hid (HNO.out _ hT11)
                  clear hT11 hf11 HRF HS HKP o0 o1 o2 o3 o4 o5 lo hO hbad d5 d6 hpos
                  go_wp2_with fail
                  refine HS2.out.mono ?_
                  rintro e wz ⟨rfl, hwz⟩
                  subst hwz
                  go_wp2_with fail
                  refine HKP2.out.mono ?_
                  rintro e wz ⟨rfl, hwz⟩
                  subst hwz
                  go_wp2_with fail
                  go_roundw
                  case measure => simp [intOf] <;> omega
                  case rel => first | exact HNX.out | (have h := HNX.out; rw [show (((k1 + 1 : Nat) : Int)) = (k1 : Int) + 1 by omega] at h; exact h)
              · obtain ⟨a, rfl⟩ : ∃ a : Nat, at_ = a := ⟨at_.toNat, by omega⟩
                have haL : a ≤ L.size := by omega
                have d5 : decide ((a : Int) < 0) = false := decide_eq_false (by omega)
                have d6 : decide ((L.size : Int) < (a : Int)) = false := decide_eq_false (by omega)
                have d6n : decide (L.size < a) = false := decide_eq_false (by omega)
                have HTM := Lib.hid (HT.out.tame _ _ _ L a fd HTO.out haL hL)
                obtain ⟨x0, x1, x2, x3, y0, y1, y2, y3, lx⟩ := blk4 (HT.out.blk _ _ _ HTO.out)
                clear hbad HS HKP
                go_wp2_with fail
                refine HTM.out.mono ?_
                rintro e w11 ⟨hres, hT11, hf11⟩
                have hO11 := hO.frm hf11 (by omega)
                clear x0 x1 x2 x3 y0 y1 y2 y3 lx o0 o1 o2 o3 o4 o5 lo hO hf11 HTM HTO d5 d6 d6n
                rcases hres with rfl | ⟨rfl, htm⟩
                · have HNX := Lib.hid (HNO.out _ hT11)
                  clear hT11 hO11
                  go_wp2_with fail
                  go_roundw
                  case measure => simp [intOf] <;> omega
                  case rel => first | exact HNX.out | (have h := HNX.out; rw [show (((k1 + 1 : Nat) : Int)) = (k1 : Int) + 1 by omega] at h; exact h)
                · have HAS := Lib.hid (HT.out.asked _ _ _ L a fd hT11 (by omega) hq1 haL hL htm)
                  obtain ⟨x0, x1, x2, x3, y0, y1, y2, y3, lx⟩ := blk4 (HT.out.blk _ _ _ hT11)
                  obtain ⟨o0, o1, o2, o3, o4, o5, lo⟩ := blk3 hO11
                  clear hT11 htm HNO
                  go_wp2_with fail
                  refine HAS.out.mono ?_
                  rintro e w12 ⟨s2, q2, rfl, hT12, hs2, hs3, hq2, hpl, hnp, hf12⟩
                  have hO12 := hO11.frm hf12 (by omega)
                  have HS2 := Lib.hid (HT.out.steps _ _ _ hT12)
                  have HKP2 := Lib.hid (HT.out.kept _ _ _ hT12)
                  have HMY := Lib.hid (HT.out.may _ _ _ L (a : Int) fd hT12 hL)
                  have HNX : Hid (∀ wz, T wz s2 q2 → PyI T pl n2 (.int .i64 ((k1 + 1 : Nat) : Int)) wz) := Lib.hid fun wz hz => ⟨k1 + 1, s2, q2, rfl, by omega, by omega, hz, by omega, by omega, Lib.hid (fun h => by have := hpl h; have := HQ0.out h; omega)⟩
                  have HT12 := Lib.hid hT12
                  have HPL := Lib.hid (⟨hpl, hnp⟩ : _ ∧ _)
                  have d7 : decide ((s2 : Int) < (s1 : Int)) = false := decide_eq_false (by omega)
                  have d7n : decide (s2 < s1) = false := decide_eq_false (by omega)
                  have d8 : decide ((q2 : Int) < (q1 : Int)) = false := decide_eq_false (by omega)
                  have d8n : decide (q2 < q1) = false := decide_eq_false (by omega)
                  obtain ⟨dd, hdd⟩ : ∃ dd, s2 - s1 = dd := ⟨_, rfl⟩
                  have hwd : IntKind.i64.wrap ((s2 : Int) - (s1 : Int)) = (dd : Int) := by rw [IntWalk.i64_in _ (by omega)]; omega
                  clear x0 x1 x2 x3 y0 y1 y2 y3 lx o0 o1 o2 o3 o4 o5 lo hO11 hf12 HAS hpl hnp
                  go_wp2_with fail
                  refine HS2.out.mono ?_
                  rintro e wz ⟨rfl, hwz⟩
                  subst hwz
                  obtain ⟨x0, x1, x2, x3, y0, y1, y2, y3, lx⟩ := blk4 (HT.out.blk _ _ _ HT12.out)
                  obtain ⟨o0, o1, o2, o3, o4, o5, lo⟩ := blk3 hO12
                  cases pl with
                  | true =>
                    have hq20 : q2 = 0 := by have := HPL.out.1 rfl; have := HQ0.out rfl; omega
                    subst hq20
                    have HNX2 := Lib.hid (HNX.out _ HT12.out)
                    clear hT12 HNX HMY hdd hwd hs2 hs3 hq2 HPL
                    go_wp2_with fail
                    refine HKP2.out.mono ?_
                    rintro e wz ⟨rfl, hwz⟩
                    subst hwz
                    go_wp2_with fail
                    refine HKP2.out.mono ?_
                    rintro e wz ⟨rfl, hwz⟩
                    subst hwz
                    go_wp2_with fail
                    go_roundw
                    case measure => simp [intOf] <;> omega
                    case rel => first | exact HNX2.out | (have h := HNX2.out; rw [show (((k1 + 1 : Nat) : Int)) = (k1 : Int) + 1 by omega] at h; exact h)
                  | false =>
                    obtain ⟨mv, hmv⟩ : ∃ mv, mayN ins gn cn L.size fd = mv := ⟨_, rfl⟩
                    have hle : dd ≤ mv := by rw [← hdd, ← hmv]; exact HPL.out.2 rfl
                    have d9 : decide ((mv : Int) < (dd : Int)) = false := decide_eq_false (by omega)
                    have d9n : decide (mv < dd) = false := decide_eq_false (by omega)
                    rw [hmv] at HMY
                    clear hT12 hdd hs2 hs3 hq2 HPL hmv hle
                    go_wp2_with fail
                    refine HKP2.out.mono ?_
                    rintro e wz ⟨rfl, hwz⟩
                    subst hwz
                    go_wp2_with fail
                    refine HMY.out.mono ?_
                    rintro e w13 ⟨rfl, hT13, hf13⟩
                    have HNX2 := Lib.hid (HNX.out _ hT13)
                    clear hT13 hf13 x0 x1 x2 x3 y0 y1 y2 y3 lx o0 o1 o2 o3 o4 o5 lo hO12
                    go_wp2_with fail
                    go_roundw
                    case measure => simp [intOf] <;> omega
                    case rel => first | exact HNX2.out | (have h := HNX2.out; rw [show (((k1 + 1 : Nat) : Int)) = (k1 : Int) + 1 by omega] at h; exact h)
          · by_cases hin1 : k1 < n2
            · have d2 : decide ((k1 : Int) < (n2 : Int)) = true := decide_eq_true (by omega)
              have d2n : decide (k1 < n2) = true := decide_eq_true hin1
              have d3 : decide ((k1 : Int) < 30) = false := decide_eq_false (by omega)
              have d3n : decide (k1 < 30) = false := decide_eq_false (by omega)
              clear hT hin
              go_wp2_with fail
              go_ret
              exact ⟨rfl, HFW.out.1⟩
            · have d2 : decide ((k1 : Int) < (n2 : Int)) = false := decide_eq_false (by omega)
              have d2n : decide (k1 < n2) = false := decide_eq_false (by omega)
              clear hT hin
              go_wp2_with fail
              go_ret
              exact ⟨rfl, HFW.out.1⟩
  · have d1 : (re != 0) = true := by simpa using hr0
    clear hr0
    go_wp2_with fail
    go_ret
    exact ⟨rfl, hff3⟩
end Go.Proofs.Ytoadmpochaeohaa
end

section
set_option linter.unusedVariables false
set_option linter.unusedSimpArgs false
set_option maxRecDepth 100000
namespace Go.Proofs.Ytoadmpochaeohaa
open Go.RowKit Go.WideShapes Go.ChangeShapes Go.ChangeAt

section
variable {H : Type} {enc : TypeId × Value → H} {W : World} {held : Bool}
theorem rows_cal : ∀ (rows : List (List Value × DataW H)), (∀ r ∈ rows, Row enc Try.prog W held 41 3 r) → ∃ ls : List Cal, rows.flatMap (·.1) = flatK ls
  | [], _ => ⟨[], rfl⟩
  | r :: rows, h => by
    obtain ⟨ls, e⟩ := rows_cal rows (fun x hx => h x (List.mem_cons_of_mem _ hx))
    have hr := h r List.mem_cons_self
    obtain ⟨fuel, ps, ht⟩ := hr.trod
    have hl := hr.len
    obtain ⟨cs, d⟩ := r
    match cs, hl with
    | [x0, x1, x2], _ =>
      obtain ⟨y0, y1, y2, n, _, _, g0, g1, g2⟩ := Go.Deep.trod_struct3 Try.underlying41 ht
      have c3 : Try.prog.cellsOf 3 = 1 := by kernel_rfl
      have c4 : Try.prog.cellsOf 4 = 1 := by kernel_rfl
      have c9 : Try.prog.cellsOf 9 = 1 := by kernel_rfl
      simp only [c3, c4, c9, List.drop_zero, List.drop_succ_cons, List.take_succ_cons, List.take_zero] at g0 g1 g2
      obtain ⟨s, k1, _, _⟩ := DataW.trod_string Try.underlying9 g0
      obtain ⟨a, a1, _, _⟩ := DataW.trod_int Try.underlying3 g1
      obtain ⟨b, b1, _⟩ := DataW.trod_bool Try.underlying4 g2
      cases k1; cases a1; cases b1
      exact ⟨⟨s, a, b⟩ :: ls, by rw [List.flatMap_cons, e]; rfl⟩
end
end Go.Proofs.Ytoadmpochaeohaa
end
