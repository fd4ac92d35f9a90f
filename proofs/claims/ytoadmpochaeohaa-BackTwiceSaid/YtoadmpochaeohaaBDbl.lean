/-
  Layer 20: doubled, walked.
-/
import Derived.Test.YtoadmpochaeohaaBAgain
set_option linter.unusedVariables false
set_option linter.unusedSimpArgs false
set_option maxRecDepth 100000
namespace Go.Proofs.Ytoadmpochaeohaa
open Go.RowKit

/-- Is a text some text twice? -/
def dblB (fo : Bool) (s : List UInt8) : Bool := decide (s.length = 2 * (s.length / 2)) && sameS fo s 0 (s.length / 2) (s.length / 2)
def lowI (fo : Bool) (x : UInt8) : Int := if fo = true ∧ 65 ≤ x.toNat ∧ x.toNat ≤ 90 then x.toNat + 32 else x.toNat
theorem lowI_low (x : UInt8) : lowI true x = (lowS x).toNat := by
  have hc := x.toNat_lt
  unfold lowI
  by_cases h1 : 65 ≤ x.toNat ∧ x.toNat ≤ 90
  · rw [if_pos ⟨rfl, h1⟩, lowS, if_pos ⟨UInt8.le_iff_toNat_le.2 h1.1, UInt8.le_iff_toNat_le.2 h1.2⟩, UInt8.toNat_add]
    show _ = (((x.toNat + 32) % 256 : Nat) : Int)
    omega
  · rw [if_neg (fun h => h1 h.2), lowS, if_neg (fun h : (65 : UInt8) ≤ x ∧ x ≤ 90 => h1 ⟨UInt8.le_iff_toNat_le.1 h.1, UInt8.le_iff_toNat_le.1 h.2⟩)]
theorem lowI_eq (fo : Bool) (x y : UInt8) : (lowI fo x = lowI fo y) ↔ (x == y || (fo && lowS x == lowS y)) = true := by
  cases fo with
  | false =>
    simp [lowI]
    constructor
    · intro h; exact UInt8.toNat_inj.1 (by omega)
    · rintro rfl; rfl
  | true =>
    rw [lowI_low, lowI_low]
    simp
    constructor
    · intro h; exact .inr (UInt8.toNat_inj.1 (by omega))
    · rintro (rfl | h)
      · rfl
      · rw [h]
theorem u8_in_ (z : Int) (h : 0 ≤ z ∧ z ≤ 255) : IntKind.u8.wrap z = z := by
  unfold IntKind.wrap
  simp [IntKind.bits, IntKind.signed]
  omega
set_option maxHeartbeats 4000000 in
theorem doubledC (s : ByteArray) (fo : Bool) (w : World) (hs : s.size ≤ 100000) : Calls Try.prog 25 #[.string s, .bool fo] w fun e w' => e = .returned (.bool (dblB fo s.toList)) ∧ w = w' := by
  obtain ⟨r, hr⟩ : ∃ r, dblB fo s.toList = r := ⟨_, rfl⟩
  rw [hr]
  have hlb : s.toList.length = s.size := by rw [ByteArray.toList_eq]; simp
  unfold dblB at hr
  rw [hlb] at hr
  obtain ⟨n, hn⟩ : ∃ n, s.size / 2 = n := ⟨_, rfl⟩
  rw [hn] at hr
  have HR := Lib.hid hr
  clear hr hlb
  have hq : (s.size : Int).tdiv 2 = n := by rw [Int.tdiv_eq_ediv_of_nonneg (by omega)]; omega
  have hqb : ((s.size : Int) != 2 * (n : Int)) = !decide (s.size = 2 * n) := by
    by_cases h : s.size = 2 * n
    · rw [decide_eq_true h]; simp; omega
    · rw [decide_eq_false h]; simp; omega
  have hw0 : wrap64 (2 * (n : Int)) = 2 * (n : Int) := IntWalk.wrap64_in _ (by omega)
  have hw00 : wrap64 (n : Int) = n := IntWalk.wrap64_in _ (by omega)
  have HN := Lib.hid hn
  clear hn
  go_enter Try.func25, Try.ntmps25
  by_cases heven : s.size = 2 * n
  · rw [decide_eq_true heven, Bool.not_true] at hqb
    have HE := Lib.hid heven
    clear heven
    go_wp2_with fail
    go_loopw [6] (fun i wr => ∃ k : Nat, i = .int .i64 k ∧ k ≤ n ∧ wr = w ∧ Hid (sameS fo s.toList 0 n k = true)) (fun i _ => n - (intOf i).toNat)
    case atStart => exact ⟨0, rfl, by omega, rfl, Lib.hid rfl⟩
    case round =>
      obtain ⟨k, rfl, hk, rfl, hsm⟩ := hrel
      by_cases hkn : k < n
      · have h1 : 0 + k < s.size := by have := HE.out; omega
        have h2 : n + k < s.size := by have := HE.out; omega
        have HSS := Lib.hid (sameS_succ h1 h2 hsm.out)
        have HNO : Hid (sameS fo s.toList 0 n (k + 1) = false → r = false) := Lib.hid fun h => by
          rw [← HR.out]
          cases hx : sameS fo s.toList 0 n n with
          | false => simp
          | true => rw [sameS_le (k := k + 1) (by omega) hx] at h; cases h
        rw [Nat.zero_add] at h1
        simp only [Nat.zero_add] at HSS
        obtain ⟨x, hx⟩ : ∃ x, s[k]'h1 = x := ⟨_, rfl⟩
        obtain ⟨y, hy⟩ : ∃ y, s[n + k]'h2 = y := ⟨_, rfl⟩
        rw [hx, hy] at HSS
        have HLE := Lib.hid (lowI_eq fo x y)
        have hxl := x.toNat_lt
        have hyl := y.toNat_lt
        have hw1 : IntKind.i64.wrap ((n : Int) + k) = ((n + k : Nat) : Int) := by rw [IntWalk.i64_in _ (by omega)]; omega
        obtain ⟨nk, hnk⟩ : ∃ nk, n + k = nk := ⟨_, rfl⟩
        simp only [hnk] at hw1 h2 hy
        go_upto_region 9 with fail
        have HXY := Lib.hid (⟨hx, hy⟩ : _ ∧ _)
        clear hx hy
        have hend : (lowI fo x = lowI fo y → sameS fo s.toList 0 n (k + 1) = true) ∧ (lowI fo x ≠ lowI fo y → r = false) := ⟨fun h => by rw [HSS.out]; exact HLE.out.1 h, fun h => HNO.out (by rw [HSS.out]; exact Bool.eq_false_iff.2 fun h2 => h (HLE.out.2 h2))⟩
        have HEND := Lib.hid hend
        clear hend
        cases fo with
        | false =>
          have hlx : lowI false x = x.toNat := by simp [lowI]
          have hly : lowI false y = y.toNat := by simp [lowI]
          rw [hlx, hly] at HEND
          clear hlx hly
          by_cases huv : (x.toNat : Int) = y.toNat
          · have t1 : ((x.toNat : Int) != y.toNat) = false := by simpa using huv
            have HOK := Lib.hid (HEND.out.1 huv)
            clear huv
            go_wp2_with fail
            go_roundw
            case measure => simp [intOf] <;> omega
            case rel => exact ⟨k + 1, by go_num, by omega, by first | rfl | trivial, HOK⟩
          · have t1 : ((x.toNat : Int) != y.toNat) = true := by simpa using huv
            obtain rfl : r = false := HEND.out.2 huv
            go_wp2_with fail
            go_ret
            exact ⟨rfl, rfl⟩
        | true =>
          have hX : (65 ≤ x.toNat ∧ x.toNat ≤ 90) ∨ x.toNat < 65 ∨ (65 ≤ x.toNat ∧ 90 < x.toNat) := by omega
          have hY : (65 ≤ y.toNat ∧ y.toNat ≤ 90) ∨ y.toNat < 65 ∨ (65 ≤ y.toNat ∧ 90 < y.toNat) := by omega
          obtain ⟨u, bx, hu, hub, hux⟩ : ∃ (u : Int) (b : Bool), lowI true x = u ∧ (0 ≤ u ∧ u ≤ 255) ∧ ((b = true ∧ decide (65 ≤ (x.toNat : Int)) = true ∧ decide ((x.toNat : Int) ≤ 90) = true ∧ IntKind.u8.wrap ((x.toNat : Int) + 32) = u) ∨ (b = false ∧ decide (65 ≤ (x.toNat : Int)) = false ∧ (x.toNat : Int) = u) ∨ (b = false ∧ decide (65 ≤ (x.toNat : Int)) = true ∧ decide ((x.toNat : Int) ≤ 90) = false ∧ (x.toNat : Int) = u)) := by
            rcases hX with h | h | h
            · exact ⟨_, true, rfl, by unfold lowI; split <;> omega, .inl ⟨rfl, decide_eq_true (by omega), decide_eq_true (by omega), by unfold lowI; rw [if_pos ⟨rfl, h⟩]; rw [u8_in_ _ (by omega)]⟩⟩
            · exact ⟨_, false, rfl, by unfold lowI; split <;> omega, .inr (.inl ⟨rfl, decide_eq_false (by omega), by unfold lowI; rw [if_neg (by omega)]⟩)⟩
            · exact ⟨_, false, rfl, by unfold lowI; split <;> omega, .inr (.inr ⟨rfl, decide_eq_true (by omega), decide_eq_false (by omega), by unfold lowI; rw [if_neg (by omega)]⟩)⟩
          obtain ⟨v, by_, hv, hvb, hvy⟩ : ∃ (u : Int) (b : Bool), lowI true y = u ∧ (0 ≤ u ∧ u ≤ 255) ∧ ((b = true ∧ decide (65 ≤ (y.toNat : Int)) = true ∧ decide ((y.toNat : Int) ≤ 90) = true ∧ IntKind.u8.wrap ((y.toNat : Int) + 32) = u) ∨ (b = false ∧ decide (65 ≤ (y.toNat : Int)) = false ∧ (y.toNat : Int) = u) ∨ (b = false ∧ decide (65 ≤ (y.toNat : Int)) = true ∧ decide ((y.toNat : Int) ≤ 90) = false ∧ (y.toNat : Int) = u)) := by
            rcases hY with h | h | h
            · exact ⟨_, true, rfl, by unfold lowI; split <;> omega, .inl ⟨rfl, decide_eq_true (by omega), decide_eq_true (by omega), by unfold lowI; rw [if_pos ⟨rfl, h⟩]; rw [u8_in_ _ (by omega)]⟩⟩
            · exact ⟨_, false, rfl, by unfold lowI; split <;> omega, .inr (.inl ⟨rfl, decide_eq_false (by omega), by unfold lowI; rw [if_neg (by omega)]⟩)⟩
            · exact ⟨_, false, rfl, by unfold lowI; split <;> omega, .inr (.inr ⟨rfl, decide_eq_true (by omega), decide_eq_false (by omega), by unfold lowI; rw [if_neg (by omega)]⟩)⟩
          rw [hu, hv] at HEND
          clear hu hv hX hY HSS HLE
          go_cut [38] from 30 to 38 (fun z wx => z = .bool bx ∧ wx = wr)
          case first =>
            rcases hux with ⟨rfl, x1, x2, x3⟩ | ⟨rfl, x1, x3⟩ | ⟨rfl, x1, x2, x3⟩
            all_goals
              clear x3
              go_wp2_with fail
              go_meet
              exact ⟨rfl, rfl⟩
          case rest =>
            obtain ⟨rfl, rfl⟩ := hcut
            have hux2 : (bx = true ∧ IntKind.u8.wrap ((x.toNat : Int) + 32) = u) ∨ (bx = false ∧ (x.toNat : Int) = u) := by
              rcases hux with ⟨x0, x1, x2, x3⟩ | ⟨x0, x1, x3⟩ | ⟨x0, x1, x2, x3⟩
              · exact .inl ⟨x0, x3⟩
              · exact .inr ⟨x0, x3⟩
              · exact .inr ⟨x0, x3⟩
            clear hux
            go_upto_if 38 with (fail)
            go_cut [7] from 39 to 40 (fun z wx => z = .int .u8 u ∧ wx = wc)
            case first =>
              rcases hux2 with ⟨rfl, x3⟩ | ⟨rfl, x3⟩
              all_goals
                go_wp2_with fail
                go_meet
                exact ⟨by first | rfl | (rw [← x3]; try rfl), rfl⟩
            case rest =>
              obtain ⟨rfl, rfl⟩ := hcut
              clear hux2
              go_upto_region 11 with fail
              go_cut [49] from 41 to 49 (fun z wx => z = .bool by_ ∧ wx = wc)
              case first =>
                rcases hvy with ⟨rfl, x1, x2, x3⟩ | ⟨rfl, x1, x3⟩ | ⟨rfl, x1, x2, x3⟩
                all_goals
                  clear x3
                  go_wp2_with fail
                  go_meet
                  exact ⟨rfl, rfl⟩
              case rest =>
                obtain ⟨rfl, rfl⟩ := hcut
                have hvy2 : (by_ = true ∧ IntKind.u8.wrap ((y.toNat : Int) + 32) = v) ∨ (by_ = false ∧ (y.toNat : Int) = v) := by
                  rcases hvy with ⟨x0, x1, x2, x3⟩ | ⟨x0, x1, x3⟩ | ⟨x0, x1, x2, x3⟩
                  · exact .inl ⟨x0, x3⟩
                  · exact .inr ⟨x0, x3⟩
                  · exact .inr ⟨x0, x3⟩
                clear hvy
                go_upto_if 49 with (fail)
                go_cut [8] from 50 to 51 (fun z wx => z = .int .u8 v ∧ wx = wc)
                case first =>
                  rcases hvy2 with ⟨rfl, x3⟩ | ⟨rfl, x3⟩
                  all_goals
                    go_wp2_with fail
                    go_meet
                    exact ⟨by first | rfl | (rw [← x3]; try rfl), rfl⟩
                case rest =>
                  obtain ⟨rfl, rfl⟩ := hcut
                  clear hvy2
                  by_cases huv : u = v
                  · have HOK := Lib.hid (HEND.out.1 huv)
                    have t1 : (u != v) = false := by simpa using huv
                    clear huv
                    go_wp2_with fail
                    go_roundw
                    case measure => simp [intOf] <;> omega
                    case rel => exact ⟨k + 1, by go_num, by omega, by first | rfl | trivial, HOK⟩
                  · obtain rfl : r = false := HEND.out.2 huv
                    have t1 : (u != v) = true := by simpa using huv
                    clear huv
                    go_wp2_with fail
                    go_ret
                    exact ⟨rfl, rfl⟩
      · obtain rfl : k = n := by omega
        have e : r = true := by rw [← HR.out, hsm.out, decide_eq_true HE.out]; rfl
        subst e
        go_wp2_with fail
        go_ret
        exact ⟨rfl, rfl⟩
  · rw [decide_eq_false heven, Bool.not_false] at hqb
    have e : r = false := by rw [← HR.out, decide_eq_false heven]; rfl
    subst e
    go_wp2_with fail
    go_ret
    exact ⟨rfl, rfl⟩
end Go.Proofs.Ytoadmpochaeohaa
