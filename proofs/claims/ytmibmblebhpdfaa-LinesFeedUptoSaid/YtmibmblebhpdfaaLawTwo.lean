import Derived.Test.YtmibmblebhpdfaaLawPieces
set_option linter.unusedVariables false
set_option linter.unusedSimpArgs false
namespace Go.Proofs.Ytmibmblebhpdfaa
open Go.RowKit

/-- Some texts, one behind the other. -/
def cat (l : List ByteArray) : List UInt8 := l.flatMap fun s => s.data.toList
theorem cat_len (l : List ByteArray) : (cat l).length = (l.map fun s => s.size).sum := by
  induction l with
  | nil => rfl
  | cons x l ih => simp only [cat, List.flatMap_cons, List.length_append, List.map_cons, List.sum_cons] at *; rw [ih]; simp
theorem cat_take (l : List ByteArray) (k : Nat) (s : ByteArray) (h : l[k]? = some s) : cat (l.take (k + 1)) = cat (l.take k) ++ s.data.toList := by
  rw [List.take_add_one, h]; simp [cat]
theorem cat_take_le (l : List ByteArray) (k : Nat) : (cat (l.take k)).length ≤ (cat l).length := by
  have : cat l = cat (l.take k) ++ cat (l.drop k) := by unfold cat; rw [← List.flatMap_append, List.take_append_drop]
  rw [this, List.length_append]; omega

structure TwoInv (W : World) (gx gy : Nat) (xa xb : List ByteArray) (k : Nat) (s : ByteArray) (wr : World) (F1 F2 : Nat → Prop) : Prop where
  text : s.data.toList = cat (xa.take k)
  x : SplT wr F1 gx (cat (xa.take k))
  y : SplT wr F2 gy (cat (xb.take k))
  frm : Frm (fun _ => False) W wr
  f1 : ∀ k, F1 k → W.heap.size ≤ k
  f2 : ∀ k, F2 k → W.heap.size ≤ k
  f12 : ∀ k, F1 k → ¬ F2 k

theorem take_past {α : Type} (l : List α) (k n : Nat) (hn : l.length = n) (hk : ¬ k < n) : l.take (k + 1) = l.take k := by
  rw [List.take_of_length_le (by omega), List.take_of_length_le (by omega)]

theorem TwoInv.stepX {W : World} {gx gy : Nat} {xa xb : List ByteArray} {k : Nat} {s : ByteArray} {wr w1 : World} {F1 F2 G1 : Nat → Prop} {q : List UInt8} (h : TwoInv W gx gy xa xb k s wr F1 F2) (hf : Frm (fun k => F1 k ∧ k < wr.heap.size) wr w1)
    (hG1 : ∀ k, G1 k → (F1 k ∧ k < wr.heap.size) ∨ wr.heap.size ≤ k) (hs : SplT w1 G1 gx q) :
    SplT w1 G1 gx q ∧ SplT w1 (fun k => F2 k ∧ k < wr.heap.size) gy (cat (xb.take k)) ∧ Frm (fun _ => False) W w1 ∧ (∀ k, G1 k → W.heap.size ≤ k) ∧ (∀ k, G1 k → ¬ (F2 k ∧ k < wr.heap.size)) := by
  have z := h.frm.size
  refine ⟨hs, h.y.low.frm hf (fun k hk hk2 => h.f12 k hk2.1 hk.1), h.frm.then hf (fun i hi hl => absurd (h.f1 i hi.1) (by omega)), ?_, ?_⟩
  · intro k hk
    rcases hG1 k hk with h1 | h1
    · exact h.f1 k h1.1
    · omega
  · intro k hk hk2
    rcases hG1 k hk with h1 | h1
    · exact h.f12 k h1.1 hk2.1
    · omega

theorem Rd.one {w : World} {F : Nat → Prop} {A : Option Addr} {n c : Nat} {xs : List Value} (h : Rd w F 1 A n c xs) {k : Nat} {x : Value} (hk : xs[k]? = some x) : ∃ b off, A = some ⟨b, off, none⟩ ∧ w.cell? ⟨b, off + k, none⟩ = some x := by
  have hl : xs.length = n := by simpa using h.len
  have hkl := (List.getElem?_eq_some_iff.1 hk).1
  obtain ⟨b, off, hA, _, hc⟩ := h.elem k (by omega)
  exact ⟨b, off, hA, by have := hc 0 x (by simpa using hk); simpa using this⟩
theorem Rd.oneAt {w : World} {F : Nat → Prop} {b off : Nat} {n c : Nat} {xs : List Value} (h : Rd w F 1 (some ⟨b, off, none⟩) n c xs) {k : Nat} {x : Value} (hk : xs[k]? = some x) : w.cell? ⟨b, off + k, none⟩ = some x := by
  obtain ⟨b', o', hA, hc⟩ := h.one hk
  cases hA
  exact hc

attribute [local go_sem high] run_eqLn

set_option maxHeartbeats 1000000 in
theorem lawTwo (A0 : Option Addr) (n c0 : Nat) (xa : List ByteArray) (B0 : Option Addr) (m d0 : Nat) (xb : List ByteArray) (W : World) (ha0 : Rd W (fun _ => True) 1 A0 n c0 (xa.map Value.string)) (hb0 : Rd W (fun _ => True) 1 B0 m d0 (xb.map Value.string))
    (hba : (xa.map fun s => s.size).sum ≤ 1048576) (hbb : (xb.map fun s => s.size).sum ≤ 1048576) (hn : n ≤ 1048576) (hm : m ≤ 1048576) :
    Calls Try.prog 5 #[.slice A0 n c0, .slice B0 m d0] W fun e w' => e = .returned (.bool true) ∧ Frm (fun _ => False) W w' := by
  have hal : xa.length = n := by simpa using ha0.len
  have hbl : xb.length = m := by simpa using hb0.len
  have hca := cat_len xa
  have hcb := cat_len xb
  have hta := cat_take_le xa
  have htb := cat_take_le xb
  have HAL := Lib.hid hal
  have HBL := Lib.hid hbl
  have hsa : ∀ k, (cat (xa.take k)).length ≤ 1048576 := fun k => by have := hta k; omega
  have hsb : ∀ k, (cat (xb.take k)).length ≤ 1048576 := fun k => by have := htb k; omega
  have HSA := Lib.hid hsa
  have HSB := Lib.hid hsb
  clear hal hbl hca hcb hta htb hsa hsb
  go_enter Try.func5, Try.ntmps5
  go_wp2_with fail
  refine (examples_calls W).mono ?_
  rintro e w0 ⟨rfl, hf0⟩
  go_wp2_with fail
  refine (new_calls _).mono ?_
  rintro e w' ⟨rfl, rfl⟩
  have hx := newT w0
  have z0 := hf0.size
  have hw1 : w0.heap.size < (w0.alloc (.cells #[.slice none 0 0, .int .i64 0, .int .i64 1] 45)).heap.size := by simp
  have hf1 := hf0.alloc (.cells #[.slice none 0 0, .int .i64 0, .int .i64 1] 45)
  generalize w0.alloc (.cells #[.slice none 0 0, .int .i64 0, .int .i64 1] 45) = w1 at *
  generalize w0.heap.size = gx at *
  go_wp2_with fail
  refine (new_calls _).mono ?_
  rintro e w' ⟨rfl, rfl⟩
  have hy := newT w1
  have hx1 := hx.frm (S := fun _ => False) ((Frm.refl _ _).alloc (.cells #[.slice none 0 0, .int .i64 0, .int .i64 1] 45)) (fun _ _ f => f)
  have hf2 := hf1.alloc (.cells #[.slice none 0 0, .int .i64 0, .int .i64 1] 45)
  have hI : TwoInv W gx w1.heap.size xa xb 0 ⟨#[]⟩ (w1.alloc (.cells #[.slice none 0 0, .int .i64 0, .int .i64 1] 45)) (fun k => k = gx) (fun k => k = w1.heap.size) :=
    ⟨rfl, hx1, hy, hf2, fun k h => by omega, fun k h => by omega, fun k h h' => by omega⟩
  clear hx hx1 hy hf1 hf2
  generalize w1.alloc (.cells #[.slice none 0 0, .int .i64 0, .int .i64 1] 45) = w2 at *
  generalize w1.heap.size = gy at *
  go_wp2
  go_loopw [8, 9, 10] (fun s c i wr => ∃ (k : Nat) (t : ByteArray) (F1 F2 : Nat → Prop), i = .int .i64 k ∧ s = .string t ∧ c = .int .i64 (lns (cat (xa.take k))).length ∧ k ≤ max n m ∧ TwoInv W gx gy xa xb k t wr F1 F2) (fun _ _ i _ => max n m - (intOf i).toNat)
  case atStart => exact ⟨0, _, _, _, rfl, rfl, rfl, by omega, hI⟩
  case round =>
    obtain ⟨k, t, F1, F2, rfl, rfl, rfl, hk, hI⟩ := hrel
    have hsx := hI.x
    have hsy := hI.y
    have ha := ha0.frm hI.frm (fun _ _ f => f)
    have hb := hb0.frm hI.frm (fun _ _ f => f)
    have hpk := HSA.out k
    have hqk := HSB.out k
    have hln := lns_len (cat (xa.take k))
    have hts : t.size ≤ 1048576 := by have := congrArg List.length hI.text; simp at this; omega
    have hex := hI.text
    have f12 := hI.f12
    have f2' := hI.f2
    have f1' := hI.f1
    have zf := hI.frm.size
    have hfr := hI.frm
    generalize hP : cat (xa.take k) = P at *
    generalize hQ : cat (xb.take k) = Q at *
    have HP := Lib.hid hP
    have HQ := Lib.hid hQ
    have HEX := Lib.hid hex
    clear hP hQ hex
    by_cases hkn : k < n
    · obtain ⟨x, hx⟩ : ∃ x, xa[k]? = some x := ⟨_, List.getElem?_eq_getElem (by rw [HAL.out]; exact hkn)⟩
      have hxv : (xa.map Value.string)[k]? = some (.string x) := by simp [hx]
      obtain ⟨b, off, rfl, hc⟩ := ha.one hxv
      have hctk := cat_take xa k x hx
      have hpk1 := HSA.out (k + 1)
      rw [hctk, HP.out, List.length_append] at hpk1
      have hxs : x.data.toList.length = x.size := by simp
      have hnew := lns_append P x.data.toList
      rw [hxs] at hpk1
      have HCT := Lib.hid hctk
      have HNW := Lib.hid hnew
      have HXS := Lib.hid hxs
      have HXV := Lib.hid hxv
      clear hx hctk hxs hnew hxv
      by_cases hkm : k < m
      · obtain ⟨y, hy⟩ : ∃ y, xb[k]? = some y := ⟨_, List.getElem?_eq_getElem (by rw [HBL.out]; exact hkm)⟩
        have hyv : (xb.map Value.string)[k]? = some (.string y) := by simp [hy]
        have hcty := cat_take xb k y hy
        have hqk1 := HSB.out (k + 1)
        rw [hcty, HQ.out, List.length_append] at hqk1
        have hys : y.data.toList.length = y.size := by simp
        rw [hys] at hqk1
        have HYV := Lib.hid hyv
        have HCY := Lib.hid hcty
        clear hy hyv hcty hys
        go_wp2_with fail
        refine (feedT (fun k => F1 k ∧ k < wr.heap.size) gx P x wr hsx.low (by omega)).mono ?_
        rintro e w3 ⟨A2, c2, G1, G2, rfl, hl2, hs2, hf2, hG1, hG2, hG12⟩
        obtain ⟨j1, j2, j3, j4, j5⟩ := hI.stepX hf2 hG1 hs2
        rw [HQ.out] at j2
        have zz := hf2.size
        have hnl := lns_len (P ++ x.data.toList)
        rw [HNW.out, List.length_append, List.length_append, HXS.out] at hnl
        generalize hnn : newL P x.data.toList = nl at *
        have HNN := Lib.hid hnn
        generalize hPX : P ++ x.data.toList = PX at *
        have HPX := Lib.hid hPX
        have hne : ((PX.length : Int) != (t.size : Int) + (x.size : Int)) = false := by
          have h1 := congrArg List.length HEX.out
          have h2 := congrArg List.length hPX
          have h3 := HXS.out
          simp only [List.length_append] at h2
          have h4 : t.data.toList.length = t.size := by simp
          rw [bne_eq_false_iff_eq]; omega
        clear hnn hPX
        have hc3 := (ha0.frm j3 (fun _ _ f => f)).oneAt HXV.out
        obtain ⟨b2, off2, rfl, hcy⟩ := (hb0.frm j3 (fun _ _ f => f)).one HYV.out
        go_wp2_with fail
        refine (feedT (fun k => F2 k ∧ k < wr.heap.size) gy Q y w3 j2 (by omega)).mono ?_
        rintro e w4 ⟨A4, c4, K1, K2, rfl, hl4, hs4, hf4, hK1, hK2, hK12⟩
        have hx4 := j1.low.frm hf4 (fun k hk hk2 => j5 k hk.1 hk2)
        have j6 : Frm (fun _ => False) W w4 := j3.then hf4 (fun i hi hl => absurd (f2' i hi.1) (by omega))
        generalize newL Q y.data.toList = nl2 at *
        generalize hQY : Q ++ y.data.toList = QY at *
        have HQY := Lib.hid hQY
        clear hQY hl4 hl2
        go_wp2_with (go_at_call 14; refine (atT _ gx PX w4 hx4).mono ?_; rintro e w' ⟨rfl, rfl⟩)
        go_roundw
        case measure => simp [intOf]; omega
        case rel =>
          have hlx : (lns (cat (xa.take (k + 1)))).length = (lns P).length + nl.length := by rw [HCT.out, HP.out, HPX.out, HNW.out, List.length_append]
          have z4 := hf4.size
          refine ⟨k + 1, t ++ x, fun k => G1 k ∧ k < w3.heap.size, K1, by go_num, rfl, by rw [hlx]; go_num, by omega, ?_⟩
          refine ⟨by rw [HCT.out, HP.out, ← HEX.out]; simp, by rw [HCT.out, HP.out, HPX.out]; exact hx4, by rw [HCY.out, HQ.out, HQY.out]; exact hs4, j6, fun k h => j4 k h.1, ?_, ?_⟩
          · intro j hj
            rcases hK1 j hj with h | h
            · exact f2' j h.1
            · omega
          · intro j hj hj2
            rcases hK1 j hj2 with h | h
            · exact j5 j hj.1 h
            · omega
      · go_wp2_with fail
        refine (feedT (fun k => F1 k ∧ k < wr.heap.size) gx P x wr hsx.low (by omega)).mono ?_
        rintro e w3 ⟨A2, c2, G1, G2, rfl, hl2, hs2, hf2, hG1, hG2, hG12⟩
        obtain ⟨j1, j2, j3, j4, j5⟩ := hI.stepX hf2 hG1 hs2
        rw [HQ.out] at j2
        have zz := hf2.size
        have hnl := lns_len (P ++ x.data.toList)
        rw [HNW.out, List.length_append, List.length_append, HXS.out] at hnl
        generalize hnn : newL P x.data.toList = nl at *
        have HNN := Lib.hid hnn
        generalize hPX : P ++ x.data.toList = PX at *
        have HPX := Lib.hid hPX
        have hne : ((PX.length : Int) != (t.size : Int) + (x.size : Int)) = false := by
          have h1 := congrArg List.length HEX.out
          have h2 := congrArg List.length hPX
          have h3 := HXS.out
          simp only [List.length_append] at h2
          have h4 : t.data.toList.length = t.size := by simp
          rw [bne_eq_false_iff_eq]; omega
        clear hnn hPX
        have hc3 := (ha0.frm j3 (fun _ _ f => f)).oneAt HXV.out
        clear hl2
        go_wp2_with (go_at_call 14; refine (atT _ gx PX w3 j1).mono ?_; rintro e w' ⟨rfl, rfl⟩)
        go_roundw
        case measure => simp [intOf]; omega
        case rel =>
          have hlx : (lns (cat (xa.take (k + 1)))).length = (lns P).length + nl.length := by rw [HCT.out, HP.out, HPX.out, HNW.out, List.length_append]
          refine ⟨k + 1, t ++ x, G1, fun k => F2 k ∧ k < wr.heap.size, by go_num, rfl, by rw [hlx]; go_num, by omega, ?_⟩
          refine ⟨by rw [HCT.out, HP.out, ← HEX.out]; simp, by rw [HCT.out, HP.out, HPX.out]; exact j1, by rw [take_past xb k m HBL.out hkm, HQ.out]; exact j2, j3, j4, fun k h => f2' k h.1, j5⟩
    · have htk := take_past xa k n HAL.out hkn
      have HTK := Lib.hid htk
      have hne : ((P.length : Int) != (t.size : Int)) = false := by
        have h1 := congrArg List.length HEX.out
        have h4 : t.data.toList.length = t.size := by simp
        rw [bne_eq_false_iff_eq]; omega
      clear htk
      by_cases hkm : k < m
      · obtain ⟨y, hy⟩ : ∃ y, xb[k]? = some y := ⟨_, List.getElem?_eq_getElem (by rw [HBL.out]; exact hkm)⟩
        have hyv : (xb.map Value.string)[k]? = some (.string y) := by simp [hy]
        have hcty := cat_take xb k y hy
        have hqk1 := HSB.out (k + 1)
        rw [hcty, HQ.out, List.length_append] at hqk1
        have hys : y.data.toList.length = y.size := by simp
        rw [hys] at hqk1
        obtain ⟨b2, off2, rfl, hcy⟩ := hb.one hyv
        have HCY := Lib.hid hcty
        clear hy hyv hcty hys
        go_wp2_with fail
        refine (feedT (fun k => F2 k ∧ k < wr.heap.size) gy Q y wr hsy.low (by omega)).mono ?_
        rintro e w4 ⟨A4, c4, K1, K2, rfl, hl4, hs4, hf4, hK1, hK2, hK12⟩
        have hx4 := hsx.low.frm hf4 (fun k hk hk2 => f12 k hk.1 hk2.1)
        have j6 : Frm (fun _ => False) W w4 := hfr.then hf4 (fun i hi hl => absurd (f2' i hi.1) (by omega))
        generalize newL Q y.data.toList = nl2 at *
        generalize hQY : Q ++ y.data.toList = QY at *
        have HQY := Lib.hid hQY
        clear hQY hl4
        go_wp2_with (go_at_call 14; refine (atT _ gx P w4 hx4).mono ?_; rintro e w' ⟨rfl, rfl⟩)
        go_roundw
        case measure => simp [intOf]; omega
        case rel =>
          refine ⟨k + 1, t, fun k => F1 k ∧ k < wr.heap.size, K1, by go_num, rfl, by rw [HTK.out, HP.out], by omega, ?_⟩
          refine ⟨by rw [HTK.out, HP.out]; exact HEX.out, by rw [HTK.out, HP.out]; exact hx4, by rw [HCY.out, HQ.out, HQY.out]; exact hs4, j6, fun k h => f1' k h.1, ?_, ?_⟩
          · intro j hj
            rcases hK1 j hj with h | h
            · exact f2' j h.1
            · omega
          · intro j hj hj2
            rcases hK1 j hj2 with h | h
            · exact f12 j hj.1 h.1
            · omega
      · have htP : t.data.toList.length = P.length := by rw [HEX.out]
        have htz : t.size ≤ 1048576 := hts
        have hcl1 : (closeL (feedL 0 1 [] P)).length ≤ 1 := by unfold closeL; split <;> simp
        have hspl : splitL t.data.toList = lns P ++ closeL (feedL 0 1 [] P) := by rw [HEX.out]; rfl
        have HSP := Lib.hid hspl
        clear hspl htP
        go_wp2_with fail
        refine (closeT (fun k => F1 k ∧ k < wr.heap.size) gx P wr hsx.low (by omega)).mono ?_
        rintro e w4 ⟨A4, c4, K1, K2, rfl, hl4, hs4, hf4, hK1, hK2, hK12⟩
        have j6 : Frm (fun _ => False) W w4 := hfr.then hf4 (fun i hi hl => absurd (f1' i hi.1) (by omega))
        rcases hcl : closeL (feedL 0 1 [] P) with _ | ⟨x, _ | ⟨y, r⟩⟩
        · rw [hcl] at hl4 HSP
          rw [List.append_nil] at HSP
          clear hcl1
          go_wp2_with fail
          refine (split_calls t w4 htz).mono ?_
          rintro e w5 ⟨v5, rfl, hv5, hf5⟩
          rw [HSP.out] at hv5
          obtain ⟨A5, c5, rfl⟩ := hv5.form
          clear hcl
          go_wp2
          go_quiet (fail)
          go_wp2
          go_ret
          exact ⟨rfl, (j6.trans hf5).drewN _⟩
        · rw [hcl] at hl4 HSP
          clear hcl1
          go_wp2_with fail
          refine (split_calls t w4 htz).mono ?_
          rintro e w5 ⟨v5, rfl, hv5, hf5⟩
          rw [HSP.out, List.length_append] at hv5
          obtain ⟨A5, c5, rfl⟩ := hv5.form
          have hl5 := hl4.frm hf5 (fun _ _ f => f)
          obtain ⟨b1, o1, rfl, l1, p0, p1, p2, p3⟩ := hl5.rd.line 0 x rfl
          obtain ⟨b2, o2, rfl, l2, q0, q1, q2, q3⟩ := hv5.rd.line (lns P).length x (by simp)
          have hq := (lnEq_of x x).trans (decide_eq_true rfl)
          simp only [Nat.zero_mul, Nat.add_zero] at p0 p1 p2 p3
          generalize (lns P).length = N at *
          clear hcl hl5 hl4 hv5
          go_wp2
          go_quiet (fail)
          go_wp2
          go_ret
          exact ⟨rfl, (j6.trans hf5).drewN _⟩
        · rw [hcl] at hcl1; simp at hcl1
end Go.Proofs.Ytmibmblebhpdfaa
