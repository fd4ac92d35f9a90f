import Derived.Test.YthlefnajbfkdbaaCells2
set_option linter.unusedVariables false
set_option linter.unusedSimpArgs false
namespace Go.Proofs.Ythlefnajbfkdbaa
open Go.RowKit

/-- Which of n things a raw number speaks of. -/
def pickN (c n : Int) : Nat := ((if c < 0 then -(c + 1) else c) % n).toNat
theorem pickN_lt (c n : Int) (hn : 1 ≤ n) : (pickN c n : Int) < n := by
  have key : ∀ x : Int, ((x % n).toNat : Int) < n := fun x => by
    have := Int.emod_nonneg x (show n ≠ 0 by omega)
    have := Int.emod_lt_of_pos x (show 0 < n by omega)
    omega
  exact key _

theorem pick_key (n : Int) (hn : 1 ≤ n) (x : Int) : x % n = ((x % n).toNat : Int) := by have := Int.emod_nonneg x (show n ≠ 0 by omega); omega

theorem pick_calls (c n : Int) (w : World) (hc0 : -9223372036854775808 ≤ c) (hc1 : c ≤ 9223372036854775807) (hn : 1 ≤ n) (hn1 : n ≤ 9223372036854775807) :
    Calls Try.prog 16 #[.int .i64 c, .int .i64 n] w fun e w' => e = .returned (.int .i64 (pickN c n)) ∧ w = w' := by
  by_cases h : c < 0
  · go_enter Try.func16, Try.ntmps16
    go_wp2
    go_ret
    have e1 : (-(c + 1)) % n = (-(c + 1)).tmod n := (Int.tmod_eq_emod_of_nonneg (by omega)).symm
    exact ⟨by rw [pickN, if_pos h, ← pick_key n hn, e1, Int.neg_tmod]; rfl, rfl⟩
  · go_enter Try.func16, Try.ntmps16
    go_wp2
    go_ret
    exact ⟨by rw [pickN, if_neg (by omega), ← pick_key n hn]; rfl, rfl⟩

theorem PI.mono {w : World} {F G : Nat → Prop} {g : Nat} {xs : List Int} (h : PI w F g xs) (hG : ∀ k, F k → k < w.heap.size → G k) : PI w G g xs := by
  obtain ⟨v, hB, hF, hS⟩ := h
  exact ⟨v, hB, hG _ hF hB.lt, hS.mono fun k h l => ⟨hG _ h.1 l, h.2⟩⟩

/-- Set, where its answers are known. -/
theorem setK (F : Nat → Prop) (g : Nat) (vs : List Int) (tr : List (Int × Int)) (i x : Int) (vs' : List Int) (tr' : List (Int × Int)) (w : World) (h : CE w F g vs tr) (hb : vs.length ≤ 1073741824) (ht : tr.length ≤ 1073741824)
    (hi : 0 ≤ i ∧ i < vs.length) (hv : vs.set i.toNat x = vs') (htr : tr ++ [(i, (getC vs i).1)] = tr') :
    Calls Try.prog 18 #[.pointer (some ⟨g, 0, none⟩), .int .i64 i, .int .i64 x] w (SetPost F g w vs' tr' 0) := by
  have := setC F g vs tr i x w h hb ht
  rw [if_neg (by omega), if_neg (by omega), if_neg (by omega), hv, htr] at this
  exact this

theorem cutK (F : Nat → Prop) (g : Nat) (xs : List Int) (n : Int) (r : Int) (xs' : List Int) (w : World) (h : PI w F g xs) (hb : xs.length ≤ 1073741824)
    (hr : (if n < 0 ∨ (xs.length : Int) < n then (1 : Int) else 0) = r) (hx : (if n < 0 ∨ (xs.length : Int) < n then xs else xs.take n.toNat) = xs') :
    Calls Try.prog 12 #[.pointer (some ⟨g, 0, none⟩), .int .i64 n] w fun e w' => e = .returned (.int .i64 r) ∧ PI w' F g xs' ∧ Frm F w w' := by
  have := cutI F g xs n w h hb
  rw [hr, hx] at this
  exact this

set_option maxHeartbeats 4000000 in
set_option maxRecDepth 100000 in
theorem known_calls (w : World) : Calls Try.prog 9 #[] w fun e w' => e = .returned (.bool true) ∧ Frm (fun _ => False) w w' := by
  have hz := newPI w
  have hPl : w.heap.size < (w.alloc (.cells #[.slice none 0 0] 75)).heap.size := by simp
  generalize hP : w.heap.size = P at *
  have hf0 : Frm (fun _ => False) w (w.alloc (.cells #[.slice none 0 0] 75)) := (Frm.refl _ w).alloc _
  go_enter Try.func9, Try.ntmps9
  go_wp2_with fail
  refine (newI w).mono ?_
  rintro e w1 ⟨rfl, rfl⟩
  rw [hP]
  generalize w.alloc (.cells #[.slice none 0 0] 75) = w1 at *
  go_wp2_with fail
  refine (newC 2 w1 (by decide)).mono ?_
  rintro e w2 ⟨g, rfl, hC, hf1⟩
  have hs2 := hf1.size
  have hz := (hz.frm hf1 (fun _ _ h => h)).mono (G := fun k => k = P ∨ w2.heap.size ≤ k) (fun k h _ => .inl h)
  have hC := hC.low
  go_wp2_with fail
  refine (pushI _ P [] 1 w2 hz (by decide)).mono ?_
  rintro e w3 ⟨rfl, hz3, hf3⟩
  clear hz
  have hs3 := hf3.size
  have hz4 := hz3.mono (G := fun k => k = P ∨ w2.heap.size ≤ k) (by rintro k (h | h) _; exact h; exact .inr (by omega))
  go_wp2_with fail
  refine (pushI _ P [1] 2 w3 hz4 (by decide)).mono ?_
  rintro e w4 ⟨rfl, hz5, hf4⟩
  clear hz3 hz4
  have hs4 := hf4.size
  have hz6 := hz5.mono (G := fun k => k = P ∨ w2.heap.size ≤ k) (by rintro k (h | h) _; exact h; exact .inr (by omega))
  go_wp2_with fail
  refine (pushI _ P [1, 2] 3 w4 hz6 (by decide)).mono ?_
  rintro e w5 ⟨rfl, hz7, hf5⟩
  clear hz5 hz6
  have hs5 := hf5.size
  have hz8 := hz7.mono (G := fun k => k = P ∨ w2.heap.size ≤ k) (by rintro k (h | h) _; exact h; exact .inr (by omega))
  clear hz7
  go_wp2_with fail
  refine (cutK _ P [1, 2, 3] 4 1 [1, 2, 3] w5 hz8 (by decide) (by decide) (by decide)).mono ?_
  rintro e w6 ⟨rfl, hz9, hf6⟩
  clear hz8
  go_wp2_with fail
  refine (cutK _ P [1, 2, 3] 1 0 [1] w6 hz9 (by decide) (by decide) (by decide)).mono ?_
  rintro e w7 ⟨rfl, hz10, hf7⟩
  clear hz9
  go_wp2_with fail
  refine (topI _ P [1] w7 hz10 (by decide) (1, true) (by decide)).mono ?_
  rintro e w' ⟨rfl, rfl⟩
  go_wp2_with fail
  refine (popI _ P [1] w7 hz10 (by decide) (1, true) (by decide)).mono ?_
  rintro e w8 ⟨rfl, hz11, hf8⟩
  clear hz10
  go_wp2_with fail
  refine (popI _ P [] w8 hz11 (by decide) (0, false) (by decide)).mono ?_
  rintro e w9 ⟨rfl, hz12, hf9⟩
  clear hz11 hz12
  have hf := ((((((hf3.trans hf4).trans hf5).trans hf6).trans hf7).trans hf8).trans hf9)
  have hC := hC.frm hf (by rintro k ⟨h1, h2⟩ (h | h); omega; omega)
  have hs9 := hf.size
  clear hf3 hf4 hf5 hf6 hf7 hf8 hf9
  go_wp2_with fail
  refine (setK _ g _ _ 0 5 [5, -1] [(0, -1)] w9 hC (by decide) (by decide) (by decide) (by decide) (by decide)).mono ?_
  rintro e w10 ⟨rfl, hC2, hf10⟩
  clear hC
  go_wp2_with fail
  refine (markC _ g _ _ w10 hC2).mono ?_
  rintro e w' ⟨rfl, rfl⟩
  go_wp2_with fail
  refine (setK _ g _ _ 0 7 [7, -1] [(0, -1), (0, 5)] w10 hC2 (by decide) (by decide) (by decide) (by decide) (by decide)).mono ?_
  rintro e w11 ⟨rfl, hC3, hf11⟩
  clear hC2
  go_wp2_with fail
  refine (getCalls _ g _ _ 0 w11 hC3 (by decide) (7, true) (by decide)).mono ?_
  rintro e w' ⟨rfl, rfl⟩
  go_wp2_with fail
  refine (backYes _ g _ _ 1 w11 hC3 (by decide) (by intro p hp; revert p; decide) (by decide) (by decide)).mono ?_
  rintro e w12 ⟨rfl, hC4, hf12⟩
  clear hC3
  go_wp2_with fail
  refine (getCalls _ g _ _ 0 w12 hC4 (by decide) (5, true) (by decide)).mono ?_
  rintro e w' ⟨rfl, rfl⟩
  go_wp2
  go_ret
  refine ⟨rfl, ?_⟩
  have hs10 := hf10.size
  have hs11 := hf11.size
  have hg := (hf0.trans hf1).then hf (fun i h hi => by rcases h with h | h <;> omega)
  exact ((hg.then hf10 (fun i h hi => by have := h.1; omega)).then hf11 (fun i h hi => by rcases h with h | h; have := h.1; omega; omega)).then hf12 (fun i h hi => by rcases h with (h | h) | h; have := h.1; omega; omega; omega)
end Go.Proofs.Ythlefnajbfkdbaa
