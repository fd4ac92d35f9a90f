/-
  NfaFollows, walked: it answers true.
-/
import Derived.Test.YtamiliccnbkipaaNLawE
import Derived.Test.YtamiliccnbkipaaNFound
import Derived.Deep.CutBlock
import Derived.Deep.DeepCutAuto
set_option linter.unusedVariables false
set_option linter.unusedSimpArgs false
namespace Go.Proofs.Ytamiliccnbkipaa
open Go.RowKit

/-- What is found from a place on; and from that place alone. -/
def rE (ins : List Ins) (L : ByteArray) (a : Nat) : Best := findS ins L.toList a true
def rS (ins : List Ins) (L : ByteArray) (a : Nat) : Best := findS ins L.toList a false
/-- The part that was found last. -/
def lastV (ins : List Ins) (L : ByteArray) (a : Nat) : Int := if a = 0 then 0 else bestF (rE ins L (a - 1))
theorem last_le {ins : List Ins} {L : ByteArray} (hfi : Fine ins) (a : Nat) (ha : a ≤ L.size) (f t : Int) (h : rE ins L a = some (f, t)) : lastV ins L a ≤ f := by
  obtain ⟨s, q, h1, h2, h3, h4, h5, h6⟩ := (find_spec (line := L.toList) hfi a (by rw [toList_len]; exact ha) true).snd f t h
  unfold lastV
  split
  · omega
  · rename_i h0
    obtain ⟨f1, t1, e, g, _⟩ := (find_spec (line := L.toList) hfi (a - 1) (by rw [toList_len]; omega) true).all s q (by omega) (fun h => (by cases h)) h5 h6
    rw [rE, e]
    show f1 ≤ f
    omega
/-- What the search for the least place comes to. -/
structure Least (ins : List Ins) (L : ByteArray) (a : Nat) (first end_ : Int) (i : Nat) : Prop where
  lo : a ≤ i
  hi : i ≤ L.size + 1
  cs : (first = -1 ∧ end_ = 0 ∧ ∀ j, a ≤ j → j < i → rS ins L j = none) ∨ (∃ j : Nat, first = j ∧ i = j + 1 ∧ a ≤ j ∧ (∃ f t, rS ins L j = some (f, t) ∧ end_ = t) ∧ ∀ k, a ≤ k → k < j → rS ins L k = none)
theorem least_end {ins : List Ins} {L : ByteArray} (hfi : Fine ins) {a i : Nat} {first end_ : Int} (ha : a ≤ L.size) (h : Least ins L a first end_ i) (hx : i = L.size + 1 ∨ 0 ≤ first) :
    (rE ins L a = none ∧ first = -1 ∧ end_ = 0) ∨ (∃ f t, rE ins L a = some (f, t) ∧ first = f ∧ end_ = t ∧ 0 ≤ f) := by
  obtain ⟨F1, F2⟩ := follows_law (line := L.toList) hfi a (by rw [toList_len]; exact ha)
  rcases h.cs with ⟨h1, h2, h3⟩ | ⟨j, h1, h2, h3, ⟨f, t, h4, h5⟩, h6⟩
  · obtain rfl : i = L.size + 1 := by omega
    cases hr : rE ins L a with
    | none => exact .inl ⟨rfl, h1, h2⟩
    | some ft =>
      obtain ⟨f, t⟩ := ft
      obtain ⟨i0, _, g2, g3, g4, _⟩ := F1 f t hr
      rw [toList_len] at g3
      have := h3 i0 g2 (by omega)
      rw [rS, g4] at this
      cases this
  · have hjl := h.hi
    cases hr : rE ins L a with
    | none =>
      have := F2 hr j h3 (by rw [toList_len]; omega)
      rw [rS, this] at h4
      cases h4
    | some ft =>
      obtain ⟨f2, t2⟩ := ft
      obtain ⟨i0, rfl, g2, g3, g4, g5⟩ := F1 f2 t2 hr
      have hij : i0 = j := by
        rcases Nat.lt_trichotomy i0 j with hlt | heq | hgt
        · have := h6 i0 g2 hlt
          rw [rS, g4] at this
          cases this
        · exact heq
        · have := g5 j h3 hgt
          rw [rS, this] at h4
          cases h4
      subst hij
      rw [rS, g4] at h4
      cases h4
      exact .inr ⟨_, _, rfl, h1, h5, by omega⟩

/-- Between two rounds of the search for the least place. -/
def LI (ins : List Ins) (L : ByteArray) (a : Nat) (w6 : World) (f e iv : Value) (wr : World) : Prop := ∃ (first end_ : Int) (i : Nat), f = .int .i64 first ∧ e = .int .i64 end_ ∧ iv = .int .i64 i ∧ Frm (fun _ => False) w6 wr ∧ Least ins L a first end_ i

set_option maxHeartbeats 8000000 in
set_option maxRecDepth 100000 in
theorem lawF_go (A : Option Addr) (n cp : Nat) (gr co : Int) (fo : Bool) (ins : List Ins) (line : ByteArray) (W : World) (hrd : Rd W (fun _ => True) 10 A n cp (flatI ins)) (hcp : cp ≤ maxLen) (hl : line.size ≤ maxLen) :
    Calls Try.prog 5 #[.agg #[.slice A n cp, .int .i64 gr, .int .i64 co, .bool fo], .string line] W fun e W' => e = .returned (.bool true) ∧ Frm (fun _ => False) W W' := by
  have hl : line.size ≤ 9223372036854775807 := by simpa [maxLen] using hl
  have hf0 : Frm (fun _ => False) W (W.alloc (.cells #[.slice A n cp, .int .i64 gr, .int .i64 co, .bool fo] 24)) := (Frm.refl _ W).alloc _
  have hP := Blk.new W [.slice A n cp, .int .i64 gr, .int .i64 co, .bool fo] 24
  have hr0 := hrd.frm hf0 (fun _ _ h => h)
  go_enter Try.func5, Try.ntmps5
  go_upto_region 1 with fail
  generalize W.alloc (.cells #[.slice A n cp, .int .i64 gr, .int .i64 co, .bool fo] 24) = w1 at *
  generalize W.heap.size = bp at *
  go_wp2_with fail
  refine (knownC w1).mono ?_
  rintro e w2 ⟨rfl, hf2⟩
  have hP2 := hP.frm hf2 (fun h => h)
  have hr2 := hr0.frm hf2 (fun _ _ h => h)
  have hfA := hf0.trans hf2
  clear hP hr0 hf0 hf2
  go_upto_if 26 with fail
  go_cut [1] from 24 to 28 (fun s wx => wx = w2 ∧ ∃ L : ByteArray, s = .string L ∧ L.size ≤ 60)
  case first =>
    by_cases h60 : 60 < line.size
    · have t1 : decide (60 < (line.size : Int)) = true := decide_eq_true (by omega)
      have hx : (line.extract 0 60).size = 60 := by rw [ByteArray.size_extract]; omega
      have HX := Lib.hid hx
      clear hx
      go_wp2_with fail
      go_meet
      exact ⟨rfl, _, rfl, by rw [HX.out]; omega⟩
    · have t1 : decide (60 < (line.size : Int)) = false := decide_eq_false (by omega)
      go_wp2_with fail
      go_meet
      exact ⟨rfl, line, rfl, by omega⟩
  case rest =>
    obtain ⟨rfl, L, rfl, hL⟩ := hcut
    obtain ⟨c0, c1, c2, c3, g0, g1, g2, g3, l0⟩ := blk4 hP2
    have HL := Lib.hid (longC A n cp gr co fo ins (fun _ => True) L 0 wc hr2 (by omega))
    go_wp2_with fail
    refine HL.out.mono ?_
    rintro e w4 ⟨hf4, ⟨hne, rfl⟩ | ⟨hz, st, rfl, _⟩⟩
    · have t1 : (beginE ins gr co L 0 != 0) = true := by simpa using hne
      have hfin := hfA.trans hf4
      clear hne
      go_wp2_with fail
      go_ret
      exact ⟨rfl, hfin⟩
    · have hfi := (begin_fine hz).1
      have hfB := hfA.trans hf4
      have hP4 := hP2.frm hf4 (fun h => h)
      have hr4 := hr2.frm hf4 (fun _ _ h => h)
      have hF : ∀ (a : Nat) (w' : World), a ≤ L.size → Frm (fun _ => False) w4 w' → Calls Try.prog 16 #[.agg #[.slice A n cp, .int .i64 gr, .int .i64 co, .bool fo], .string L, .int .i64 a] w' fun e w'' => Frm (fun _ => False) w' w'' ∧
          ∃ st, e = .returned (.tuple #[.agg #[.int .i64 (bestF (rE ins L a)), .int .i64 (bestT (rE ins L a))], .bool (rE ins L a).isSome, .int .i64 st, .int .i64 0]) := by
        intro a w' ha hf
        refine (findC A n cp gr co fo ins (fun _ => True) L a w' (hr4.frm hf (fun _ _ h => h)) (by omega)).mono ?_
        rintro e w'' ⟨hf6, ⟨hne, _⟩ | ⟨_, st3, rfl, _⟩⟩
        · exact absurd (begin_zero hz L a (by omega) (by omega)) hne
        · exact ⟨hf6, st3, rfl⟩
      have hG : ∀ (a : Nat) (w' : World), a ≤ L.size → Frm (fun _ => False) w4 w' → Calls Try.prog 11 #[.agg #[.slice A n cp, .int .i64 gr, .int .i64 co, .bool fo], .string L, .int .i64 a] w' fun e w'' => Frm (fun _ => False) w' w'' ∧
          ∃ st, e = .returned (.tuple #[.int .i64 (bestT (rS ins L a)), .bool (rS ins L a).isSome, .int .i64 st, .int .i64 0]) := by
        intro a w' ha hf
        refine (longC A n cp gr co fo ins (fun _ => True) L a w' (hr4.frm hf (fun _ _ h => h)) (by omega)).mono ?_
        rintro e w'' ⟨hf6, ⟨hne, _⟩ | ⟨_, st3, rfl, _⟩⟩
        · exact absurd (begin_zero hz L a (by omega) (by omega)) hne
        · exact ⟨hf6, st3, rfl⟩
      have HF := Lib.hid hF
      have HG := Lib.hid hG
      have HFI := Lib.hid hfi
      clear hF hG hfi hz HL c0 c1 c2 c3 g0 g1 g2 g3 l0 hP2 hr2
      generalize bestT (findS ins L.toList (Int.toNat 0) false) = x1
      generalize (findS ins L.toList (Int.toNat 0) false).isSome = x2
      go_wp2_with fail
      go_loopw [10, 11] (fun la at_ wr => ∃ a : Nat, at_ = .int .i64 a ∧ a ≤ L.size + 1 ∧ la = .int .i64 (lastV ins L a) ∧ Frm (fun _ => False) w4 wr) (fun _ at_ _ => L.size + 1 - (intOf at_).toNat)
      case atStart => exact ⟨0, rfl, by omega, rfl, Frm.refl _ _⟩
      case round =>
        obtain ⟨a, rfl, ha, rfl, hfr⟩ := hrel
        have hPr := hP4.frm hfr (fun h => h)
        obtain ⟨c0, c1, c2, c3, g0, g1, g2, g3, l0⟩ := blk4 hPr
        by_cases hal : a ≤ L.size
        · have HFa := Lib.hid (HF.out a wr hal hfr)
          have HLE := Lib.hid (fun first end_ i h hx => least_end (first := first) (end_ := end_) (i := i) HFI.out hal h hx)
          have HLA := Lib.hid (fun f t h => last_le HFI.out a hal f t h)
          obtain ⟨lv, hlv⟩ : ∃ lv, lastV ins L a = lv := ⟨_, rfl⟩
          rw [hlv] at HLA ⊢
          have HLV : Hid (lastV ins L (a + 1) = bestF (rE ins L a)) := by rw [Hid, lastV, if_neg (by omega), Nat.add_sub_cancel]
          clear hlv
          generalize rE ins L a = r at *
          go_wp2_with fail
          refine HFa.out.mono ?_
          rintro e w5 ⟨hf5, st5, rfl⟩
          have hP5 := (hPr.frm hf5 (fun h => h)).alloc (.cells #[.int .i64 (bestF r), .int .i64 (bestT r)] 37)
          have hS5 := Blk.new w5 [.int .i64 (bestF r), .int .i64 (bestT r)] 37
          have hf6 := (hfr.trans hf5).alloc (.cells #[.int .i64 (bestF r), .int .i64 (bestT r)] 37)
          clear c0 c1 c2 c3 g0 g1 g2 g3 l0
          go_upto_block 2 with fail
          generalize w5.alloc (.cells #[.int .i64 (bestF r), .int .i64 (bestT r)] 37) = w6 at *
          generalize w5.heap.size = b5 at *
          go_cut [16, 17] from 56 to 79 (fun f e wx => Frm (fun _ => False) w6 wx ∧ ∃ (first end_ : Int), f = .int .i64 first ∧ e = .int .i64 end_ ∧ Hid ((r = none ∧ first = -1 ∧ end_ = 0) ∨ (∃ f t, r = some (f, t) ∧ first = f ∧ end_ = t ∧ 0 ≤ f)))
          case first =>
            go_wp2_with fail
            go_loopw [16, 17, 18] (fun f e iv wr => LI ins L a w6 f e iv wr) (fun _ _ iv _ => L.size + 1 - (intOf iv).toNat)
            case atStart => exact ⟨-1, 0, a, rfl, rfl, rfl, Frm.refl _ _, ⟨Nat.le_refl _, by omega, .inl ⟨rfl, rfl, fun j h1 h2 => by omega⟩⟩⟩
            case round =>
              obtain ⟨first, end_, i, rfl, rfl, rfl, hf7, hls⟩ := hrel
              have HLS := Lib.hid hls
              clear hls
              by_cases hx : i = L.size + 1 ∨ 0 ≤ first
              · have hres := Lib.hid (HLE.out first end_ i HLS.out hx)
                by_cases hi : i ≤ L.size
                · have hfst : ¬ first < 0 := by omega
                  have t1 : decide (first < 0) = false := decide_eq_false hfst
                  clear hx
                  go_wp2_with fail
                  go_meet
                  exact ⟨hf7, first, end_, rfl, rfl, hres⟩
                · have t2 : decide (i ≤ L.size) = false := decide_eq_false hi
                  have t3 : ¬ ((i : Int) ≤ (L.size : Int)) := by omega
                  clear hx
                  go_wp2_with fail
                  go_meet
                  exact ⟨hf7, first, end_, rfl, rfl, hres⟩
              · have hi : i ≤ L.size := by have := HLS.out.hi; omega
                have hfst : first < 0 := by omega
                have hcs : first = -1 ∧ end_ = 0 ∧ ∀ j, a ≤ j → j < i → rS ins L j = none := by
                  rcases HLS.out.cs with h | ⟨j, h1, _⟩
                  · exact h
                  · omega
                have hlo := HLS.out.lo
                obtain ⟨rfl, rfl, hnone⟩ := hcs
                have HGi := Lib.hid (HG.out i wr hi (hf6.trans hf7))
                have HNO := Lib.hid hnone
                obtain ⟨ri, hri⟩ : ∃ ri, rS ins L i = ri := ⟨_, rfl⟩
                rw [hri] at HGi
                have HRI := Lib.hid hri
                clear hx hnone hri
                obtain ⟨c0, c1, c2, c3, g0, g1, g2, g3, l0⟩ := blk4 (hP5.frm hf7 (fun h => h))
                go_wp2_with fail
                refine HGi.out.mono ?_
                rintro e w8 ⟨hf8, st8, rfl⟩
                rcases ri with _ | ⟨f, t⟩
                · have hnew : Least ins L a (-1) 0 (i + 1) := ⟨by omega, by omega, .inl ⟨rfl, rfl, fun j h1 h2 => by
                    by_cases hj : j = i
                    · rw [hj]; exact HRI.out
                    · exact HNO.out j h1 (by omega)⟩⟩
                  have HNE := Lib.hid hnew
                  clear hnew
                  rw [show bestT (none : Best) = 0 from rfl, show (none : Best).isSome = false from rfl]
                  go_wp2_with fail
                  go_roundw
                  case measure => simp [intOf] <;> omega
                  case rel => exact ⟨-1, 0, i + 1, by go_num, by go_num, by go_num, hf7.trans hf8, HNE.out⟩
                · have hnew : Least ins L a i t (i + 1) := ⟨by omega, by omega, .inr ⟨i, rfl, rfl, hlo, ⟨f, t, HRI.out, rfl⟩, HNO.out⟩⟩
                  have HNE := Lib.hid hnew
                  clear hnew
                  rw [show bestT (some (f, t)) = t from rfl, show (some (f, t)).isSome = true from rfl]
                  go_wp2_with fail
                  go_roundw
                  case measure => simp [intOf] <;> omega
                  case rel => exact ⟨i, t, i + 1, by go_num, by go_num, by go_num, hf7.trans hf8, HNE.out⟩
          case rest =>
            obtain ⟨hf7, first, end_, rfl, rfl, HRS⟩ := hcut
            generalize wc = w7 at *
            have hS7 := hS5.frm hf7 (fun h => h)
            obtain ⟨s0, s1, z0, z1, ls⟩ := blk2 hS7
            have hfin := hf6.trans hf7
            rcases HRS.out with ⟨rfl, rfl, rfl⟩ | ⟨f, t, rfl, rfl, rfl, hf0⟩
            · simp only [bestF, bestT, Option.isSome_none] at *
              go_wp2_with fail
              go_roundw
              case measure => simp [intOf] <;> omega
              case rel => exact ⟨a + 1, by go_num, by omega, by rw [HLV.out], hfin⟩
            · have hla := HLA.out _ _ rfl
              have t4 : decide (first < lv) = false := decide_eq_false (by omega)
              have t5 : ¬ first < lv := by omega
              have t6 : decide (0 ≤ first) = true := decide_eq_true hf0
              simp only [bestF, bestT, Option.isSome_some] at *
              go_wp2_with fail
              go_roundw
              case measure => simp [intOf] <;> omega
              case rel => exact ⟨a + 1, by go_num, by omega, by rw [HLV.out], hfin⟩
        · obtain rfl : a = L.size + 1 := by omega
          have t1 : ¬ (((L.size + 1 : Nat) : Int) ≤ (L.size : Int)) := by omega
          have hfin := hfB.trans hfr
          go_wp2_with fail
          go_ret
          exact ⟨rfl, hfin⟩
end Go.Proofs.Ytamiliccnbkipaa
