/-
  Layer 20: BackTwice's law, walked.
-/
import Derived.Test.YtoadmpochaeohaaBTwiceP
import Derived.Test.YtoadmpochaeohaaBDbl
set_option linter.unusedVariables false
set_option linter.unusedSimpArgs false
set_option maxRecDepth 100000
namespace Go.Proofs.Ytoadmpochaeohaa
open Go.RowKit

theorem ba_ext (s : ByteArray) (a b : Nat) : (s.extract a b).toList = (s.toList.take b).drop a := by
  rw [ByteArray.toList_eq, ByteArray.toList_eq, ByteArray.data_extract, Array.toList_extract, List.extract_eq_drop_take', List.drop_take]
theorem ba_len (a : ByteArray) : a.toList.length = a.size := by rw [ByteArray.toList_eq]; simp
theorem ext_get (L : List UInt8) (a j k : Nat) (h : k < j - a) : ((L.take j).drop a)[k]? = L[a + k]? := by
  rw [List.getElem?_drop, List.getElem?_take, if_pos (by omega)]
theorem same_ext (fo : Bool) (L : List UInt8) (a j h : Nat) : ∀ n, h + n ≤ j - a → n ≤ h → sameS fo ((L.take j).drop a) 0 h n = sameS fo L a (a + h) n
  | 0, _, _ => rfl
  | n + 1, h1, h2 => by
    rw [sameS, sameS, same_ext fo L a j h n (by omega) (by omega), ext_get L a j (0 + n) (by omega), ext_get L a j (h + n) (by omega), Nat.zero_add, Nat.add_assoc]
theorem dbl_ext (fo : Bool) (s : ByteArray) (a j : Nat) (h1 : a ≤ j) (h2 : j ≤ s.size) : dblB fo (s.extract a j).toList = dbl fo s.toList a j := by
  have hl : ((s.toList.take j).drop a).length = j - a := by rw [List.length_drop, List.length_take, ba_len]; omega
  unfold dblB dbl
  rw [ba_ext, hl, same_ext fo s.toList a j _ _ (by omega) (Nat.le_refl _)]
  congr 1
def allV : List Value := [.int .u64 18446744073709551615, .int .u64 18446744073709551615, .int .u64 18446744073709551615, .int .u64 18446744073709551615]
theorem twoA_ (w : World) (x y : List Value) (a b : TypeId) : Blk ((w.alloc (.cells x.toArray a)).alloc (.cells y.toArray b)) w.heap.size x a ∧ Blk ((w.alloc (.cells x.toArray a)).alloc (.cells y.toArray b)) (w.heap.size + 1) y b ∧ Frm (fun _ => False) w ((w.alloc (.cells x.toArray a)).alloc (.cells y.toArray b)) := by
  have e1 : (w.alloc (.cells x.toArray a)).heap.size = w.heap.size + 1 := by unfold World.alloc; exact Array.size_push _
  refine ⟨(Blk.new w x a).alloc _, ?_, ((Frm.refl _ _).alloc _).alloc _⟩
  rw [← e1]; exact Blk.new _ y b
/-- Between two places. -/
def WI (w : World) (b : Nat) (st0 : Stt) (D : Nat → Prop) (m : Mc) (line : ByteArray) (i : Value) (wr : World) : Prop :=
  ∃ k st kp : Nat, i = .int .i64 k ∧ k ≤ line.size + 1 ∧ Idle wr D b st0 m st kp ∧ st ≤ k * 1000 ∧ kp ≤ 1000 ∧ Frm (fun _ => False) w wr
set_option maxHeartbeats 16000000 in
theorem lawTwiceB (line0 : ByteArray) (fo pl : Bool) (w : World) :
    Calls Try.prog 7 #[.string line0, .bool fo, .bool pl] w fun e w' => e = .returned (.bool true) ∧ Frm (fun _ => False) w w' := by
  have HK := Lib.hid (knownC w)
  go_enter Try.func7, Try.ntmps7
  go_wp2_with fail
  refine HK.out.mono ?_
  rintro e w1 ⟨rfl, hf1⟩
  go_upto_region 3 with fail
  have hI := Blk.new w1 [.int .u64 18446744073709551615, .int .u64 18446744073709551615, .int .u64 18446744073709551615, .int .u64 18446744073709551615] 37
  have hf2 := hf1.alloc (.cells #[.int .u64 18446744073709551615, .int .u64 18446744073709551615, .int .u64 18446744073709551615, .int .u64 18446744073709551615] 37)
  have hz1 := hf1.size
  generalize w1.alloc (.cells #[.int .u64 18446744073709551615, .int .u64 18446744073709551615, .int .u64 18446744073709551615, .int .u64 18446744073709551615] 37) = w2 at *
  obtain ⟨bI, hbI⟩ : ∃ bI, w1.heap.size = bI := ⟨_, rfl⟩
  simp only [hbI] at hI hz1 ⊢
  clear hbI hf1
  go_cut [9] from 21 to 31 (fun v wx => ∃ b8 A, v = .pointer (some ⟨b8, 0, none⟩) ∧ Blk wx b8 [.slice A 7 7, .int .i64 1, .int .i64 0, .bool fo] 24 ∧ Rd wx (fun _ => True) 10 A 7 7 (flatI twoL) ∧ Frm (fun _ => False) w wx)
  case first =>
    obtain ⟨x0, x1, x2, x3, y0, y1, y2, y3, lx⟩ := blk4 hI
    have T := twoA_ w2 (flatI twoL) [.slice (some ⟨w2.heap.size, 0, none⟩) 7 7, .int .i64 1, .int .i64 0, .bool fo] 39 24
    have HT := Lib.hid T
    clear T
    go_wp2_with fail
    go_meet
    exact ⟨w2.heap.size + 1, some ⟨w2.heap.size, 0, none⟩, rfl, HT.out.2.1, HT.out.1.rdA trivial rfl, hf2.trans HT.out.2.2⟩
  case rest =>
    obtain ⟨b8, A, rfl, hP, hRd, hf5⟩ := hcut
    obtain ⟨w5, hw5⟩ : ∃ w5, w5 = wc := ⟨_, rfl⟩
    subst hw5
    have HN := Lib.hid (newMk A 7 7 1 0 fo pl twoL _ w5 3 hRd two_right two_stop)
    clear hI hf2 hRd
    obtain ⟨x0, x1, x2, x3, y0, y1, y2, y3, lx⟩ := blk4 hP
    go_wp2_with fail
    refine HN.out.mono ?_
    rintro e w6 ⟨b, st, D, rfl, hI6, hW, hb6, hD6, hf6⟩
    have hff := hf5.trans hf6
    have hzb := hf5.size
    change Idle w6 D b st (m2 fo pl) 0 0 at hI6
    have HI6 := Lib.hid hI6
    clear x0 x1 x2 x3 y0 y1 y2 y3 lx hP hI6 hW hD6 hf6 HN hf5
    obtain ⟨m, hm⟩ : ∃ m, min line0.size 24 = m := ⟨_, rfl⟩
    have hmin : ∀ (w : World) (ty : TypeId), (Builtin.min_ #[3, 3] ty #[.int .i64 line0.size, .int .i64 24]).run Try.prog w = .ok (.int .i64 m) w := fun w ty => by
      have hm2 : (if (24 : Int) < line0.size then (24 : Int) else line0.size) = m := by rw [← hm, Nat.min_def]; split <;> split <;> omega
      simp [Builtin.min_, Builtin.min2, hm2]
    have hm1 : m ≤ line0.size := by omega
    have hls : (line0.extract 0 m).size = m := by rw [ByteArray.size_extract]; omega
    have hm24 : m ≤ 24 := by omega
    clear hm
    go_upto_region 8 with fail
    generalize line0.extract 0 m = line at *
    subst hls
    have hmem : ∀ wr st0 kp, Idle wr D b st (m2 fo pl) st0 kp → Frm (fun _ => False) w wr → ∀ a : Nat, a ≤ line.size → st0 ≤ a * 1000 → kp ≤ 1000 → Calls Try.prog 20 #[.pointer (some ⟨b, 0, none⟩), .string line, .int .i64 a] wr fun e w' => e = .returned (.tuple #[.int .i64 (wantS fo line.toList a (line.size + 1 - a) : Nat), .bool true, .int .i64 0]) ∧ WI w b st D (m2 fo pl) line (.int .i64 (a + 1 : Nat)) w' := by
      intro wr st0 kp hI hf a ha hst hkp
      have hbl := ba_len line
      obtain ⟨r, hr⟩ := two_ends (fo := fo) (pl := pl) (L := line.toList) (s := a) (st := st0) (kp := kp) (by omega)
      have hbest := two_best (by omega) (by omega) hr
      have hbd := run_bound _ _ _ _ hr
      simp only [List.length_nil, Nat.zero_add] at hbd
      rw [hbl] at hbest
      refine (longestB (line := line) a _ r (MW2 fo pl) hI ha (by omega) (by rw [m2_ins]; decide) hr (by omega) (by omega) (by omega)).mono ?_
      rintro e w' ⟨rfl, hI', hf'⟩
      rw [hbest]
      refine ⟨rfl, a + 1, _, _, rfl, by omega, hI', by omega, by omega, hf.then hf' (fun q hq hl => by omega)⟩
    have HM := Lib.hid hmem
    clear hmem hm1 hmin hzb hb6 hz1
    have HW0 : Hid (WI w b st D (m2 fo pl) line (.int .i64 0) w6) := Lib.hid ⟨0, 0, 0, rfl, by omega, HI6.out, by omega, by omega, hff⟩
    clear hff HI6
    go_wp2_with fail
    go_loopw [12] (fun i wr => WI w b st D (m2 fo pl) line i wr) (fun i _ => line.size + 1 - (intOf i).toNat)
    case atStart => exact HW0.out
    case round =>
      clear HW0
      obtain ⟨a, s0, kp, rfl, ha, hI, hs0, hkp, hf⟩ := hrel
      by_cases hal : a ≤ line.size
      · have d1 : decide ((a : Int) ≤ (line.size : Int)) = true := decide_eq_true (by omega)
        have HC := Lib.hid (HM.out wr s0 kp hI hf a hal hs0 hkp)
        clear hI hs0 hkp hf
        have hwa : IntKind.i64.wrap ((a : Int) + 1) = ((a + 1 : Nat) : Int) := by rw [IntWalk.i64_in _ (by omega)]; omega
        go_wp2_with fail
        go_loopw [13, 14] (fun v j wx => ∃ k : Nat, j = .int .i64 (a + k : Nat) ∧ k ≤ line.size + 1 - a ∧ v = .int .i64 (wantS fo line.toList a k : Nat) ∧ wx = wr) (fun _ j _ => line.size + 1 - (intOf j).toNat)
        case atStart => exact ⟨0, rfl, by omega, rfl, rfl⟩
        case round =>
          obtain ⟨k, rfl, hk, rfl, rfl⟩ := hrel
          obtain ⟨j, hj⟩ : ∃ j, a + k = j := ⟨_, rfl⟩
          have HWT : Hid (wantS fo line.toList a (k + 1) = if dbl fo line.toList a j then j else wantS fo line.toList a k) := Lib.hid (by rw [wantS, hj])
          have hex : k = j - a := by omega
          obtain ⟨wt, hwt⟩ : ∃ wt, wantS fo line.toList a k = wt := ⟨_, rfl⟩
          simp only [hwt] at HWT ⊢
          simp only [hj]
          have HJ := Lib.hid (⟨hj, hwt⟩ : _ ∧ _)
          have haj : a ≤ j := by omega
          have hjb : j ≤ line.size + 1 := by omega
          clear hj hwt hex hk
          by_cases hjl : j ≤ line.size
          · have d2 : decide ((j : Int) ≤ (line.size : Int)) = true := decide_eq_true (by omega)
            obtain ⟨bb, hbb⟩ : ∃ bb, dbl fo line.toList a j = bb := ⟨_, rfl⟩
            have hxs : (line.extract a j).size = j - a := by rw [ByteArray.size_extract]; omega
            have HD := Lib.hid (fun w => doubledC (line.extract a j) fo w (by omega))
            rw [dbl_ext fo line a j haj hjl, hbb] at HD
            rw [hbb] at HWT
            clear hbb hxs
            have hwj : IntKind.i64.wrap ((j : Int) + 1) = ((j + 1 : Nat) : Int) := by rw [IntWalk.i64_in _ (by omega)]; omega
            cases bb with
            | true =>
              have HWT2 : Hid (wantS fo line.toList a (k + 1) = j) := Lib.hid (by rw [HWT.out]; rfl)
              go_wp2_with ((refine (HD.out _).mono ?_; rintro e w' ⟨rfl, rfl⟩))
              go_roundw
              case measure => simp [intOf] <;> omega
              case rel => exact ⟨k + 1, by have := HJ.out.1; rw [show a + (k + 1) = j + 1 by omega]; go_num, by have := HJ.out.1; omega, by rw [HWT2.out], by first | rfl | trivial⟩
            | false =>
              have HWT2 : Hid (wantS fo line.toList a (k + 1) = wt) := Lib.hid (by rw [HWT.out]; rfl)
              go_wp2_with ((refine (HD.out _).mono ?_; rintro e w' ⟨rfl, rfl⟩))
              go_roundw
              case measure => simp [intOf] <;> omega
              case rel => exact ⟨k + 1, by have := HJ.out.1; rw [show a + (k + 1) = j + 1 by omega]; go_num, by have := HJ.out.1; omega, by rw [HWT2.out], by first | rfl | trivial⟩
          · obtain rfl : j = line.size + 1 := by omega
            have d2 : decide (((line.size + 1 : Nat) : Int) ≤ (line.size : Int)) = false := decide_eq_false (by omega)
            have HCC : Hid (wantS fo line.toList a (line.size + 1 - a) = wt) := Lib.hid (by have := HJ.out; rw [show line.size + 1 - a = k by omega]; exact this.2)
            rw [HCC.out] at HC
            go_wp2_with ((refine HC.out.mono ?_; rintro e w' ⟨rfl, hWI⟩; have HWI := Lib.hid hWI; clear hWI))
            go_roundw
            case measure => simp [intOf] <;> omega
            case rel => exact HWI.out
      · obtain rfl : a = line.size + 1 := by omega
        have d1 : decide (((line.size + 1 : Nat) : Int) ≤ (line.size : Int)) = false := decide_eq_false (by omega)
        clear hI
        go_wp2_with fail
        go_ret
        exact ⟨rfl, hf⟩
end Go.Proofs.Ytoadmpochaeohaa
