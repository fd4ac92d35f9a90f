import Derived.Test.YtmibmblebhpdfaaTold
set_option linter.unusedVariables false
set_option linter.unusedSimpArgs false
namespace Go.Proofs.Ytmibmblebhpdfaa
open Go.RowKit

def lns (p : List UInt8) : List Ln := (feedL 0 1 [] p).lines
theorem lns_append (p q : List UInt8) : lns (p ++ q) = lns p ++ newL p q := fed_lines p q
theorem lns_len (p : List UInt8) : (lns p).length ≤ p.length := (fed_small p).2.1

structure PInv (W : World) (text : ByteArray) (g : Nat) (p : List UInt8) (rest : ByteArray) (v : Value) (wr : World) (F1 F2 : Nat → Prop) : Prop where
  text : text.data.toList = p ++ rest.data.toList
  spl : SplT wr F1 g p
  sl : Sl wr F2 31 4 v (lns p).length (cellsL (lns p))
  frm : Frm (fun _ => False) W wr
  f1 : ∀ k, F1 k → W.heap.size ≤ k
  f2 : ∀ k, F2 k → W.heap.size ≤ k
  f12 : ∀ k, F1 k → ¬ F2 k

/-- What a round, or the end, does with it: a piece is fed, its lines are laid behind. -/
theorem PInv.step {W : World} {text : ByteArray} {g : Nat} {p q : List UInt8} {rest rest' : ByteArray} {v v' : Value} {wr w1 w2 : World} {F1 F2 G1 G2 : Nat → Prop} (h : PInv W text g p rest v wr F1 F2)
    (hr : rest.data.toList = q ++ rest'.data.toList) (hs : SplT w1 G1 g (p ++ q)) (hf : Frm (fun k => F1 k ∧ k < wr.heap.size) wr w1) (hG1 : ∀ k, G1 k → (F1 k ∧ k < wr.heap.size) ∨ wr.heap.size ≤ k) (hG2 : ∀ k, G2 k → wr.heap.size ≤ k)
    (hf2 : Frm (fun k => F2 k ∧ k < wr.heap.size) w1 w2) (hsl : Sl w2 (fun k => (F2 k ∧ k < wr.heap.size) ∨ w1.heap.size ≤ k) 31 4 v' ((lns p).length + (newL p q).length) (cellsL (lns p) ++ cellsL (newL p q))) :
    PInv W text g (p ++ q) rest' v' w2 (fun k => G1 k ∧ k < w1.heap.size) (fun k => (F2 k ∧ k < wr.heap.size) ∨ w1.heap.size ≤ k) := by
  have z0 := h.frm.size
  have z1 := hf.size
  refine ⟨by rw [h.text, hr, List.append_assoc], hs.low.frm hf2 (fun k hk hk2 => ?_), by rw [lns_append, List.length_append, cellsL_append]; exact hsl, ?_, ?_, ?_, ?_⟩
  · rcases hG1 k hk.1 with h1 | h1
    · exact h.f12 k h1.1 hk2.1
    · omega
  · exact (h.frm.then hf (fun i hi hl => absurd (h.f1 i hi.1) (by omega))).then hf2 (fun i hi hl => absurd (h.f2 i hi.1) (by omega))
  · rintro k ⟨hk, _⟩
    rcases hG1 k hk with h1 | h1
    · exact h.f1 k h1.1
    · omega
  · rintro k (hk | hk)
    · exact h.f2 k hk.1
    · omega
  · rintro k ⟨hk, hl⟩ (hk2 | hk2)
    · rcases hG1 k hk with h1 | h1
      · exact h.f12 k h1.1 hk2.1
      · omega
    · omega

theorem wf_i64 {z : Int} (h : (Lit.int .i64 z).wf = true) : -9223372036854775808 ≤ z ∧ z ≤ 9223372036854775807 := by
  simpa [Lit.wf, IntKind.min, IntKind.max, IntKind.signed, IntKind.bits] using h

attribute [local go_sem high] run_eqLn

set_option maxHeartbeats 1000000 in
theorem lawPieces (text : ByteArray) (A0 : Option Addr) (n c0 : Nat) (zs : List Int) (W : World) (hb : text.size ≤ 1048576) (hrd0 : Rd W (fun _ => True) 1 A0 n c0 (zs.map (Value.int .i64))) (hwf : ∀ z ∈ zs, (Lit.int .i64 z).wf = true) (hn : n ≤ 1048576) :
    Calls Try.prog 3 #[.string text, .slice A0 n c0] W fun e w' => e = .returned (.bool true) ∧ Frm (fun _ => False) W w' := by
  have hzl : zs.length = n := by simpa using hrd0.len
  have HZL := Lib.hid hzl
  clear hzl
  go_enter Try.func3, Try.ntmps3
  go_wp2_with (first | (go_at_call 8; refine (examples_calls W).mono ?_; rintro e w0 ⟨rfl, hf0⟩) | (go_at_call 9; refine (new_calls _).mono ?_; rintro e w' ⟨rfl, rfl⟩))
  have hsp := newT w0
  have z0 := hf0.size
  have hI : PInv W text w0.heap.size [] text (.slice none 0 0) (w0.alloc (.cells #[.slice none 0 0, .int .i64 0, .int .i64 1] 45)) (fun k => k = w0.heap.size) (fun _ => False) :=
    ⟨rfl, hsp, by simpa [lns, feedL, cellsL] using Sl.nil (F := fun _ => False), hf0.alloc _, fun k h => by omega, fun _ h => h.elim, fun _ _ h => h⟩
  generalize w0.alloc (.cells #[.slice none 0 0, .int .i64 0, .int .i64 1] 45) = w1 at *
  clear hsp
  generalize w0.heap.size = g at *
  go_loopw [7, 8, 9] (fun v s i wr => ∃ (k : Nat) (p : List UInt8) (rest : ByteArray) (F1 F2 : Nat → Prop), i = .int .i64 k ∧ s = .string rest ∧ PInv W text g p rest v wr F1 F2) (fun _ _ i _ => n - (intOf i).toNat)
  case atStart => exact ⟨0, [], text, _, _, rfl, rfl, hI⟩
  case round =>
    obtain ⟨k, p, rest, F1, F2, rfl, rfl, hI⟩ := hrel
    have htx : p.length + rest.size = text.size := by have := congrArg List.length hI.text; simpa using this.symm
    have HTX := Lib.hid htx
    have hln := lns_len p
    have hpl : p.length ≤ text.size := by omega
    have hrs : rest.size ≤ text.size := by omega
    clear htx
    by_cases hlt : k < n
    · obtain ⟨z, hz⟩ : ∃ z, zs[k]? = some z := ⟨_, List.getElem?_eq_getElem (by rw [HZL.out]; exact hlt)⟩
      obtain ⟨hz0, hz1⟩ := wf_i64 (hwf z (List.mem_of_getElem? hz))
      have hrd := hrd0.frm hI.frm (fun _ _ f => f)
      obtain ⟨b, off, rfl, _, hcell⟩ := hrd.elem k hlt
      have hc := hcell 0 (.int .i64 z) (by simp [hz])
      simp only [Nat.mul_one, Nat.add_zero] at hc
      have HZ := Lib.hid hz
      clear hcell hz
      have hsl := hI.sl
      obtain ⟨A1, c1, rfl⟩ := hsl.form
      go_wp2_with fail
      refine (pick_calls z (rest.size + 1) _ hz0 hz1 (by omega) (by omega)).mono ?_
      rintro e w' ⟨m, rfl, hm, rfl⟩
      have hm2 : m ≤ rest.size := by omega
      go_wp2_with fail
      refine (feedT (fun k => F1 k ∧ k < wr.heap.size) g p (rest.extract 0 m) wr hI.spl.low (by simp; have := HTX.out; omega)).mono ?_
      rintro e w2 ⟨A2, c2, G1, G2, rfl, hl2, hs2, hf2, hG1, hG2, hG12⟩
      have hsl2 := hsl.low.frm hf2 (fun k h h' => hI.f12 k h'.1 h.1)
      have hq : (rest.extract 0 m).data.toList.length ≤ rest.size := by simp; omega
      have hnl : (lns p).length + (newL p (rest.extract 0 m).data.toList).length ≤ text.size := by
        rw [← List.length_append, ← lns_append]
        have := lns_len (p ++ (rest.extract 0 m).data.toList)
        have := HTX.out
        simp only [List.length_append] at *; omega
      generalize hnl2 : newL p (rest.extract 0 m).data.toList = nl at *
      have HNL := Lib.hid hnl2
      clear hnl2 hq
      go_wp2_with (with_reducible refine stop_at 45 rfl ?_)
      unfold Stop
      refine op_appendRd rfl _ _ _ rfl 31 _ 4 40 Try.underlying26 infoLn rfl (by omega) hsl2 rfl hl2.rd rfl (cellsL_one' _) (by simp only [maxLen]; omega) (by omega) ?_
      intro v3 w3 hf3 hs3
      have hx1 : rest.data.toList = (rest.extract 0 m).data.toList ++ (rest.extract m rest.size).data.toList := by
        rw [ext_data, ext_data, List.drop_zero, List.take_of_length_le (by simp : rest.data.toList.length ≤ rest.size), List.take_append_drop]
      rw [← HNL.out] at hs3
      have hI2 := hI.step (q := (rest.extract 0 m).data.toList) (rest' := rest.extract m rest.size) hx1 hs2 hf2 hG1 hG2 hf3 hs3
      go_wp2
      go_roundw
      case measure => simp [intOf]; omega
      case rel => exact ⟨k + 1, _, _, _, _, by go_num, rfl, hI2⟩
    · have hsl := hI.sl
      obtain ⟨A1, c1, rfl⟩ := hsl.form
      go_wp2_with fail
      refine (feedT (fun k => F1 k ∧ k < wr.heap.size) g p rest wr hI.spl.low (by have := HTX.out; omega)).mono ?_
      rintro e w2 ⟨A2, c2, G1, G2, rfl, hl2, hs2, hf2, hG1, hG2, hG12⟩
      have hsl2 := hsl.low.frm hf2 (fun k h h' => hI.f12 k h'.1 h.1)
      have hnl : (lns p).length + (newL p rest.data.toList).length ≤ text.size := by
        rw [← List.length_append, ← lns_append]
        have := lns_len (p ++ rest.data.toList)
        have := HTX.out
        simp at *; omega
      generalize hnl2 : newL p rest.data.toList = nl at *
      have HNL := Lib.hid hnl2
      clear hnl2
      go_wp2_with (with_reducible refine stop_at 54 rfl ?_)
      unfold Stop
      refine op_appendRd rfl _ _ _ rfl 31 _ 4 40 Try.underlying26 infoLn rfl (by omega) hsl2 rfl hl2.rd rfl (cellsL_one' _) (by simp only [maxLen]; omega) (by omega) ?_
      intro v3 w3 hf3 hs3
      rw [← HNL.out] at hs3
      have hI2 := hI.step (q := rest.data.toList) (rest' := ⟨#[]⟩) (by simp) hs2 hf2 hG1 hG2 hf3 hs3
      rw [← hI.text] at hI2
      clear hI hsl hsl2 hs2 hl2 hs3 HNL hf2 hf3 hG1 hG2 hG12 hnl hpl hrs hln HTX
      generalize hJ1 : (fun k => G1 k ∧ k < w2.heap.size) = J1 at hI2
      generalize hJ2 : (fun k => F2 k ∧ k < wr.heap.size ∨ w2.heap.size ≤ k) = J2 at hI2
      clear hJ1 hJ2
      have hs3 := hI2.spl.low
      have hl3 := hI2.sl
      obtain ⟨A3, c3, rfl⟩ := hl3.form
      have hfr3 := hI2.frm
      have zz3 := hfr3.size
      have f12 := hI2.f12
      have hj1 := hI2.f1
      have hj2 := hI2.f2
      have htl := lns_len text.data.toList
      have hts : text.data.toList.length = text.size := by simp
      rw [hts] at htl
      clear hts hI2
      go_wp2_with fail
      refine (closeT (fun k => J1 k ∧ k < w3.heap.size) g text.data.toList w3 hs3 (by simp; omega)).mono ?_
      rintro e w4 ⟨A4, c4, K1, K2, rfl, hl4, hs4, hf4, hK1, hK2, hK12⟩
      have hl3' := hl3.low.frm hf4 (fun k h h' => f12 k h'.1 h.1)
      have hcl : (closeL (feedL 0 1 [] text.data.toList)).length ≤ 1 := by unfold closeL; split <;> simp
      have hspl : splitL text.data.toList = lns text.data.toList ++ closeL (feedL 0 1 [] text.data.toList) := rfl
      generalize closeL (feedL 0 1 [] text.data.toList) = cl at *
      generalize lns text.data.toList = ll at *
      have HSP := Lib.hid hspl
      clear hspl
      go_wp2_with (with_reducible refine stop_at 59 rfl ?_)
      unfold Stop
      refine op_appendRd rfl _ _ _ rfl 31 _ 4 40 Try.underlying26 infoLn rfl (by omega) hl3' rfl hl4.rd rfl (cellsL_one' _) (by simp only [maxLen]; omega) (by omega) ?_
      intro v5 w5 hf5 hs5
      obtain ⟨A5, c5, rfl⟩ := hs5.form
      go_wp2_with fail
      refine (split_calls text w5 hb).mono ?_
      rintro e w6 ⟨v6, rfl, hv6, hf6⟩
      have hs6 := hs5.frm hf6 (fun _ _ f => f)
      rw [HSP.out, List.length_append] at hv6
      rw [← cellsL_append] at hs6
      obtain ⟨A6, c6, rfl⟩ := hv6.form
      have ha := hs6.rd
      have hbb := hv6.rd
      have hF6 : Frm (fun _ => False) W w6 := ((hfr3.then hf4 (fun i h hi => absurd (hj1 i h.1) (by omega))).then hf5 (fun i h hi => absurd (hj2 i h.1) (by omega))).trans hf6
      have hne : (((ll.length + cl.length : Nat) : Int) != ((ll.length + cl.length : Nat) : Int)) = false := by simp
      generalize hN : ll.length + cl.length = N at *
      generalize hLL : ll ++ cl = LL at *
      clear hs6 hv6 hs5 hl3' hl4 hs4 hf4 hf5 hf6 hK1 hK2 hK12 HSP hl3 hs3
      have hl1 := ha.lines
      have HL1 := Lib.hid hl1
      clear hl1 hLL
      go_wp2
      go_loopw [14] (fun i wr => ∃ k : Nat, i = .int .i64 k ∧ k ≤ N ∧ Frm (fun _ => False) w6 wr) (fun i _ => N - (intOf i).toNat)
      case atStart => exact ⟨0, rfl, by omega, Frm.refl _ _⟩
      case round =>
        obtain ⟨j, rfl, hj, hf⟩ := hrel
        by_cases hlt2 : j < N
        · obtain ⟨x, e1⟩ : ∃ x, LL[j]? = some x := ⟨_, List.getElem?_eq_getElem (by rw [HL1.out]; exact hlt2)⟩
          have ha' := ha.frm hf (fun _ _ f => f)
          have hb' := hbb.frm hf (fun _ _ f => f)
          obtain ⟨b1, o1, rfl, l1, p0, p1, p2, p3⟩ := ha'.line j _ e1
          obtain ⟨b2, o2, rfl, l2, q0, q1, q2, q3⟩ := hb'.line j _ e1
          have hq := (lnEq_of x x).trans (decide_eq_true rfl)
          clear e1
          go_wp2
          go_quiet (fail)
          go_wp2
          go_roundw
          case measure => simp [intOf]; omega
          case rel => exact ⟨j + 1, by go_num, by omega, hf.drewN _⟩
        · go_wp2
          go_ret
          exact ⟨rfl, hF6.trans hf⟩
end Go.Proofs.Ytmibmblebhpdfaa
