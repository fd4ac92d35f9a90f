import Derived.Test.YtmibmblebhpdfaaLawSplit
set_option linter.unusedVariables false
set_option linter.unusedSimpArgs false
namespace Go.Proofs.Ytmibmblebhpdfaa
open Go.RowKit

structure JoinInv (L : List Ln) (k : Nat) (s : ByteArray) : Prop where
  le : k ≤ L.length
  text : s.data.toList = join (L.take k)
  good : Good s.size (k + 1) (L.drop k)

theorem bs_nil_iff (l : List UInt8) : (bs l).toList = l := by rw [ByteArray.toList_eq]; rfl

set_option maxHeartbeats 1000000 in
set_option maxRecDepth 100000 in
theorem lawJoin (text : ByteArray) (W : World) (hb : text.size ≤ 1048576) :
    Calls Try.prog 4 #[.string text] W fun e w' => e = .returned (.bool true) ∧ Frm (fun _ => False) W w' := by
  obtain ⟨hgood, hjoin⟩ := splitL_good text.data.toList
  have hsl := splitL_len text.data.toList
  have hts : text.data.toList.length = text.size := by simp
  rw [hts] at hsl
  generalize hL : splitL text.data.toList = L at *
  have hjl : ∀ k, (join (L.take k)).length ≤ text.size := fun k => by rw [← hts]; have := join_take_le L k; rw [hjoin] at this; exact this
  have HL := Lib.hid hL
  have HJ := Lib.hid hjoin
  have HJL := Lib.hid hjl
  clear hL hts hjoin hjl
  go_enter Try.func4, Try.ntmps4
  go_wp2_with fail
  refine (examples_calls W).mono ?_
  rintro e w0 ⟨rfl, hf0⟩
  go_wp2_with fail
  refine (split_calls text w0 hb).mono ?_
  rintro e w1 ⟨v1, rfl, hv1, hf1⟩
  rw [HL.out] at hv1
  obtain ⟨A1, c1, rfl⟩ := hv1.form
  have hrd0 := hv1.rd
  have hF1 := hf0.trans hf1
  have hI : JoinInv L 0 ⟨#[]⟩ := ⟨Nat.zero_le _, rfl, hgood⟩
  clear hgood
  go_wp2
  go_loopw [5, 6] (fun s i wr => ∃ (k : Nat) (t : ByteArray), i = .int .i64 k ∧ s = .string t ∧ JoinInv L k t ∧ Frm (fun _ => False) w1 wr) (fun _ i _ => L.length - (intOf i).toNat)
  case atStart => exact ⟨0, _, rfl, rfl, hI, Frm.refl _ _⟩
  case round =>
    obtain ⟨k, t, rfl, rfl, hI, hf⟩ := hrel
    have hle := hI.le
    have htx := hI.text
    have hgd := hI.good
    have hjk := HJL.out k
    have htz : t.data.toList.length = t.size := by simp
    rw [htx] at htz
    rw [htz] at hjk
    by_cases hlt : k < L.length
    · obtain ⟨x, hx⟩ : ∃ x, L[k]? = some x := ⟨_, List.getElem?_eq_getElem hlt⟩
      have hdr : L.drop k = x :: L.drop (k + 1) := by
        rw [List.drop_eq_getElem_cons hlt]
        have := List.getElem?_eq_getElem hlt
        rw [this] at hx; injection hx with hx; rw [hx]
      rw [hdr] at hgd
      obtain ⟨g1, g2, g3, g4, g5⟩ := hgd
      have hrd := hrd0.frm hf (fun _ _ f => f)
      obtain ⟨b, off, rfl, l0, p0, p1, p2, p3⟩ := hrd.line k x hx
      have hjk1 := HJL.out (k + 1)
      have hjt := join_take L k x hx
      rw [hjt, List.length_append, htz] at hjk1
      have hlt2 : (lineText x).length = x.text.length + if x.ended then 1 else 0 := by unfold lineText; split <;> simp_all
      rw [hlt2] at hjk1
      have HX := Lib.hid hx
      have HJT := Lib.hid hjt
      have HTX := Lib.hid htx
      have HG5 := Lib.hid g5
      have HTZ := Lib.hid htz
      have HG3 := Lib.hid g3
      rw [g1] at p0
      rw [g2] at p1
      clear hx hdr hjt htx htz hlt2 g1 g2 g5 g3
      obtain ⟨tb, htb⟩ : ∃ tb, tb = bs x.text := ⟨_, rfl⟩
      have hts : tb.size = x.text.length := by rw [htb]; rfl
      have htd : tb.data.toList = x.text := by rw [htb]; rfl
      have hno : ∀ m (h : m < tb.size), (((tb[m]'h).toNat : Int) == 10) = false := by
        intro m h
        rw [beq_eq_false_iff_ne]
        intro e
        apply HG3.out
        have e1 : tb[m] = 10 := UInt8.toNat_inj.1 (by rw [show (10 : UInt8).toNat = 10 from rfl]; omega)
        have e2 : tb[m] ∈ tb.data.toList := by
          rw [show tb[m] = tb.data.toList[m]'(by simpa using h) from rfl]
          exact List.getElem_mem _
        rwa [e1, htd] at e2
      have HNO := Lib.hid hno
      have HTD := Lib.hid htd
      have HTS := Lib.hid hts
      rw [← htb] at p2
      rw [← hts] at hjk1 HG5
      clear hno htd hts
      have HTB : Hid (bs x.text = tb) := Lib.hid htb.symm
      clear htb
      cases hend : x.ended with
      | true =>
        rw [hend] at p3
        simp only [hend, if_true] at hjk1
        clear g4
        go_wp2
        go_loopw [7] (fun j w2 => ∃ (m : Nat), j = .int .i64 m ∧ m ≤ tb.size ∧ Frm (fun _ => False) wr w2) (fun j _ => tb.size - (intOf j).toNat)
        case atStart => exact ⟨0, rfl, Nat.zero_le _, Frm.refl _ _⟩
        case round =>
          obtain ⟨m, rfl, hm, hf2⟩ := hrel
          have hrd2 := hrd.frm hf2 (fun _ _ f => f)
          obtain ⟨b', off', hq, l0', r0, r1, r2, r3⟩ := hrd2.line k x HX.out
          cases hq
          rw [hend] at r3
          rw [HTB.out] at r2
          clear r0 r1
          by_cases hm2 : m < tb.size
          · have hbb := HNO.out m hm2
            clear p0 p1 p2 p3
            go_wp2
            go_roundw
            case measure => simp [intOf]; omega
            case rel => exact ⟨m + 1, by go_num, by omega, hf2⟩
          · clear p0 p1 p2 p3
            go_wp2
            go_roundw
            case measure => simp [intOf]; omega
            case rel =>
              refine ⟨k + 1, _, by go_num, rfl, ⟨by omega, ?_, ?_⟩, hf.trans hf2⟩
              · rw [HJT.out, ← HTX.out, lineText, hend, ← HTD.out]; simp
              · have hg := HG5.out
                rw [hend] at hg
                simp at hg ⊢
                exact hg
      | false =>
        rw [hend] at p3
        simp only [hend] at hjk1
        obtain ⟨hr, hne⟩ := g4.resolve_left (by simp [hend])
        have hlast : L.length = k + 1 := by have := congrArg List.length hr; simp at this; omega
        have hne2 : tb.toList.isEmpty = false := by rw [ByteArray.toList_eq, HTD.out]; cases hxt : x.text with | nil => exact absurd hxt hne | cons c l => rfl
        have hne3 : tb.toList ≠ [] := by intro e; rw [e] at hne2; cases hne2
        have hlb : ((k : Int) != (L.length : Int) - 1) = false := by rw [bne_eq_false_iff_eq]; omega
        clear g4 hr hne
        go_wp2
        go_loopw [7] (fun j w2 => ∃ (m : Nat), j = .int .i64 m ∧ m ≤ tb.size ∧ Frm (fun _ => False) wr w2) (fun j _ => tb.size - (intOf j).toNat)
        case atStart => exact ⟨0, rfl, Nat.zero_le _, Frm.refl _ _⟩
        case round =>
          obtain ⟨m, rfl, hm, hf2⟩ := hrel
          have hrd2 := hrd.frm hf2 (fun _ _ f => f)
          obtain ⟨b', off', hq, l0', r0, r1, r2, r3⟩ := hrd2.line k x HX.out
          cases hq
          rw [hend] at r3
          rw [HTB.out] at r2
          clear r0 r1
          by_cases hm2 : m < tb.size
          · have hbb := HNO.out m hm2
            clear p0 p1 p2 p3
            go_wp2
            go_roundw
            case measure => simp [intOf]; omega
            case rel => exact ⟨m + 1, by go_num, by omega, hf2⟩
          · clear p0 p1 p2 p3
            go_wp2
            go_roundw
            case measure => simp [intOf]; omega
            case rel =>
              refine ⟨k + 1, _, by go_num, rfl, ⟨by omega, ?_, ?_⟩, hf.trans hf2⟩
              · rw [HJT.out, ← HTX.out, lineText, hend, ← HTD.out]; simp
              · have hg := HG5.out
                rw [hend] at hg
                simp at hg ⊢
                exact hg
    · have hk : k = L.length := by omega
      have hjt := htx
      rw [hk, List.take_of_length_le (Nat.le_refl _), HJ.out] at hjt
      obtain rfl : t = text := by rw [← bs_data t, hjt, bs_data]
      clear hjt htx htz
      go_wp2
      go_ret
      exact ⟨rfl, hF1.trans hf⟩
end Go.Proofs.Ytmibmblebhpdfaa
